/- Contracts of the operations of no disk. -/
import Derived.Test.YthcajaadbdiggaaDiskR
namespace Go.Proofs.Ythcajaadbdiggaa
set_option maxRecDepth 10000
open Go.RowKit

/-- a nil disk, or a zero one -/
def NoDisk (w : World) (p : Value) : Prop := p = .pointer none ∨ ∃ z : Nat, p = .pointer (some ⟨z, 0, none⟩) ∧ w.heap[z]? = some (.cells #[.map none, .int .i64 0, .bool false, .int .i64 0, .int .i64 0] 72 (0, 0))
theorem NoDisk.move {w w' : World} {p : Value} (h : NoDisk w p) (hb : Below w.heap.size w w') : NoDisk w' p := by
  rcases h with rfl | ⟨z, rfl, hz⟩
  · exact .inl rfl
  · exact .inr ⟨z, rfl, (hb.block z (heap_lt hz)).trans hz⟩
theorem map_none (w : World) : (binOp BinOp.eql 70 (.map none) (.map none)).run Try.prog w = .ok (.bool true) w := by
  simp [binOp, run_equal_map_nil _ _ _ _ _ Try.underlying70, Result.andThen]
theorem nil_none (p : Value) (w : World) (h : NoDisk w p) : Calls Try.prog 50 #[p] w fun e w' => e = .returned (.bool true) ∧ w = w' := by
  rcases h with rfl | ⟨z, rfl, hz⟩
  · go_enter Try.func50, Try.ntmps50
    go_wp2_with fail
    go_ret
    exact ⟨rfl, rfl⟩
  · have hm := map_none w
    have c0 : w.cell? ⟨z, 0, none⟩ = some (.map none) := by rw [cell_row hz]; rfl
    go_enter Try.func50, Try.ntmps50
    go_wp2_with fail
    go_ret
    exact ⟨rfl, rfl⟩
theorem nil_may (p : Value) (f : Int) (w : World) (h : NoDisk w p) : Calls Try.prog 51 #[p, .int .i64 f] w fun e w' => e = .returned (.int .i64 1) ∧ w = w' := by
  have hn := nil_none p w h
  clear h
  go_enter Try.func51, Try.ntmps51
  go_wp2_with fail
  refine hn.mono ?_
  rintro e w1 ⟨rfl, rfl⟩
  go_wp2_with fail
  go_ret
  exact ⟨rfl, rfl⟩
theorem nil_append (p : Value) (f : Int) (u : Value) (w : World) (h : NoDisk w p) : Calls Try.prog 26 #[p, .int .i64 f, u] w fun e w' => e = .returned (.int .i64 1) ∧ w = w' := by
  have hn := nil_may p f w h
  clear h
  go_enter Try.func26, Try.ntmps26
  go_wp2_with fail
  refine hn.mono ?_
  rintro e w1 ⟨rfl, rfl⟩
  go_wp2_with fail
  go_ret
  exact ⟨rfl, rfl⟩
theorem nil_sync (p : Value) (f : Int) (w : World) (h : NoDisk w p) : Calls Try.prog 18 #[p, .int .i64 f] w fun e w' => e = .returned (.int .i64 1) ∧ w = w' := by
  have hn := nil_may p f w h
  clear h
  go_enter Try.func18, Try.ntmps18
  go_wp2_with fail
  refine hn.mono ?_
  rintro e w1 ⟨rfl, rfl⟩
  go_wp2_with fail
  go_ret
  exact ⟨rfl, rfl⟩
theorem nil_clear (p : Value) (f : Int) (w : World) (h : NoDisk w p) : Calls Try.prog 58 #[p, .int .i64 f] w fun e w' => e = .returned (.int .i64 1) ∧ w = w' := by
  have hn := nil_may p f w h
  clear h
  go_enter Try.func58, Try.ntmps58
  go_wp2_with fail
  refine hn.mono ?_
  rintro e w1 ⟨rfl, rfl⟩
  go_wp2_with fail
  go_ret
  exact ⟨rfl, rfl⟩
theorem nil_read (p : Value) (f : Int) (w : World) (h : NoDisk w p) : Calls Try.prog 45 #[p, .int .i64 f] w fun e w' => e = .returned (.tuple #[.slice none 0 0, .int .i64 1]) ∧ w = w' := by
  have hn := nil_may p f w h
  clear h
  go_enter Try.func45, Try.ntmps45
  go_wp2_with fail
  refine hn.mono ?_
  rintro e w1 ⟨rfl, rfl⟩
  go_wp2_with fail
  go_ret2
  exact ⟨rfl, rfl⟩
theorem nil_arm (p : Value) (k : Int) (w : World) (h : NoDisk w p) : Calls Try.prog 17 #[p, .int .i64 k] w fun e w' => e = .returned (.tuple #[]) ∧ w = w' := by
  have hn := nil_none p w h
  clear h
  go_enter Try.func17, Try.ntmps17
  go_wp2_with fail
  refine hn.mono ?_
  rintro e w1 ⟨rfl, rfl⟩
  go_wp2_with fail
  refine bodyPost_ret (results_none rfl _ _ _) rfl ?_
  exact ⟨rfl, rfl⟩
theorem nil_power (p u : Value) (w : World) (h : NoDisk w p) : Calls Try.prog 30 #[p, u] w fun e w' => e = .returned (.tuple #[]) ∧ w = w' := by
  have hn := nil_none p w h
  clear h
  go_enter Try.func30, Try.ntmps30
  go_wp2_with fail
  refine hn.mono ?_
  rintro e w1 ⟨rfl, rfl⟩
  go_wp2_with fail
  refine bodyPost_ret (results_none rfl _ _ _) rfl ?_
  exact ⟨rfl, rfl⟩
theorem nil_dead (p : Value) (w : World) (h : NoDisk w p) : Calls Try.prog 32 #[p] w fun e w' => e = .returned (.bool true) ∧ w = w' := by
  have hn := nil_none p w h
  clear h
  go_enter Try.func32, Try.ntmps32
  go_wp2_with fail
  refine hn.mono ?_
  rintro e w1 ⟨rfl, rfl⟩
  go_wp2_with fail
  go_ret
  exact ⟨rfl, rfl⟩
theorem nil_lives (p : Value) (w : World) (h : NoDisk w p) : Calls Try.prog 48 #[p] w fun e w' => e = .returned (.int .i64 0) ∧ w = w' := by
  have hn := nil_none p w h
  clear h
  go_enter Try.func48, Try.ntmps48
  go_wp2_with fail
  refine hn.mono ?_
  rintro e w1 ⟨rfl, rfl⟩
  go_wp2_with fail
  go_ret
  exact ⟨rfl, rfl⟩
end Go.Proofs.Ythcajaadbdiggaa
