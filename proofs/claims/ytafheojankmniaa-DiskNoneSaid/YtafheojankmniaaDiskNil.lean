/- Contracts of the operations of no disk. -/
import Derived.Test.YtafheojankmniaaDiskR
namespace Go.Proofs.Ytafheojankmniaa
open Go.RowKit

/-- a nil disk, or a zero one -/
def NoDisk (w : World) (p : Value) : Prop := p = .pointer none ∨ ∃ z : Nat, p = .pointer (some ⟨z, 0, none⟩) ∧ w.heap[z]? = some (.cells #[.map none, .int .i64 0, .bool false, .int .i64 0, .int .i64 0] 51 (0, 0))
theorem NoDisk.move {w w' : World} {p : Value} (h : NoDisk w p) (hb : Below w.heap.size w w') : NoDisk w' p := by
  rcases h with rfl | ⟨z, rfl, hz⟩
  · exact .inl rfl
  · exact .inr ⟨z, rfl, (hb.block z (heap_lt hz)).trans hz⟩
theorem map_none (w : World) : (binOp BinOp.eql 49 (.map none) (.map none)).run Try.prog w = .ok (.bool true) w := by
  simp [binOp, run_equal_map_nil _ _ _ _ _ Try.underlying49, Result.andThen]
theorem nil_none (p : Value) (w : World) (h : NoDisk w p) : Calls Try.prog 30 #[p] w fun e w' => e = .returned (.bool true) ∧ w = w' := by
  rcases h with rfl | ⟨z, rfl, hz⟩
  · go_enter Try.func30, Try.ntmps30
    go_wp2_with fail
    go_ret
    exact ⟨rfl, rfl⟩
  · have hm := map_none w
    have c0 : w.cell? ⟨z, 0, none⟩ = some (.map none) := by rw [cell_row hz]; rfl
    go_enter Try.func30, Try.ntmps30
    go_wp2_with fail
    go_ret
    exact ⟨rfl, rfl⟩
theorem nil_may (p : Value) (f : Int) (w : World) (h : NoDisk w p) : Calls Try.prog 28 #[p, .int .i64 f] w fun e w' => e = .returned (.int .i64 1) ∧ w = w' := by
  have hn := nil_none p w h
  clear h
  go_enter Try.func28, Try.ntmps28
  go_wp2_with fail
  refine hn.mono ?_
  rintro e w1 ⟨rfl, rfl⟩
  go_wp2_with fail
  go_ret
  exact ⟨rfl, rfl⟩
theorem nil_append (p : Value) (f : Int) (u : Value) (w : World) (h : NoDisk w p) : Calls Try.prog 11 #[p, .int .i64 f, u] w fun e w' => e = .returned (.int .i64 1) ∧ w = w' := by
  have hn := nil_may p f w h
  clear h
  go_enter Try.func11, Try.ntmps11
  go_wp2_with fail
  refine hn.mono ?_
  rintro e w1 ⟨rfl, rfl⟩
  go_wp2_with fail
  go_ret
  exact ⟨rfl, rfl⟩
theorem nil_sync (p : Value) (f : Int) (w : World) (h : NoDisk w p) : Calls Try.prog 16 #[p, .int .i64 f] w fun e w' => e = .returned (.int .i64 1) ∧ w = w' := by
  have hn := nil_may p f w h
  clear h
  go_enter Try.func16, Try.ntmps16
  go_wp2_with fail
  refine hn.mono ?_
  rintro e w1 ⟨rfl, rfl⟩
  go_wp2_with fail
  go_ret
  exact ⟨rfl, rfl⟩
theorem nil_clear (p : Value) (f : Int) (w : World) (h : NoDisk w p) : Calls Try.prog 17 #[p, .int .i64 f] w fun e w' => e = .returned (.int .i64 1) ∧ w = w' := by
  have hn := nil_may p f w h
  clear h
  go_enter Try.func17, Try.ntmps17
  go_wp2_with fail
  refine hn.mono ?_
  rintro e w1 ⟨rfl, rfl⟩
  go_wp2_with fail
  go_ret
  exact ⟨rfl, rfl⟩
theorem nil_read (p : Value) (f : Int) (w : World) (h : NoDisk w p) : Calls Try.prog 13 #[p, .int .i64 f] w fun e w' => e = .returned (.tuple #[.slice none 0 0, .int .i64 1]) ∧ w = w' := by
  have hn := nil_may p f w h
  clear h
  go_enter Try.func13, Try.ntmps13
  go_wp2_with fail
  refine hn.mono ?_
  rintro e w1 ⟨rfl, rfl⟩
  go_wp2_with fail
  go_ret2
  exact ⟨rfl, rfl⟩
theorem nil_arm (p : Value) (k : Int) (w : World) (h : NoDisk w p) : Calls Try.prog 18 #[p, .int .i64 k] w fun e w' => e = .returned (.tuple #[]) ∧ w = w' := by
  have hn := nil_none p w h
  clear h
  go_enter Try.func18, Try.ntmps18
  go_wp2_with fail
  refine hn.mono ?_
  rintro e w1 ⟨rfl, rfl⟩
  go_wp2_with fail
  refine bodyPost_ret (results_none rfl _ _ _) rfl ?_
  exact ⟨rfl, rfl⟩
theorem nil_power (p u : Value) (w : World) (h : NoDisk w p) : Calls Try.prog 12 #[p, u] w fun e w' => e = .returned (.tuple #[]) ∧ w = w' := by
  have hn := nil_none p w h
  clear h
  go_enter Try.func12, Try.ntmps12
  go_wp2_with fail
  refine hn.mono ?_
  rintro e w1 ⟨rfl, rfl⟩
  go_wp2_with fail
  refine bodyPost_ret (results_none rfl _ _ _) rfl ?_
  exact ⟨rfl, rfl⟩
theorem nil_dead (p : Value) (w : World) (h : NoDisk w p) : Calls Try.prog 23 #[p] w fun e w' => e = .returned (.bool true) ∧ w = w' := by
  have hn := nil_none p w h
  clear h
  go_enter Try.func23, Try.ntmps23
  go_wp2_with fail
  refine hn.mono ?_
  rintro e w1 ⟨rfl, rfl⟩
  go_wp2_with fail
  go_ret
  exact ⟨rfl, rfl⟩
theorem nil_lives (p : Value) (w : World) (h : NoDisk w p) : Calls Try.prog 27 #[p] w fun e w' => e = .returned (.int .i64 0) ∧ w = w' := by
  have hn := nil_none p w h
  clear h
  go_enter Try.func27, Try.ntmps27
  go_wp2_with fail
  refine hn.mono ?_
  rintro e w1 ⟨rfl, rfl⟩
  go_wp2_with fail
  go_ret
  exact ⟨rfl, rfl⟩
theorem nil_steps (p : Value) (w : World) (h : NoDisk w p) : Calls Try.prog 24 #[p] w fun e w' => e = .returned (.int .i64 0) ∧ w = w' := by
  have hn := nil_none p w h
  clear h
  go_enter Try.func24, Try.ntmps24
  go_wp2_with fail
  refine hn.mono ?_
  rintro e w1 ⟨rfl, rfl⟩
  go_wp2_with fail
  go_ret
  exact ⟨rfl, rfl⟩
theorem nil_copy (p : Value) (w : World) (h : NoDisk w p) : Calls Try.prog 25 #[p] w fun e w' => e = .returned (.pointer none) ∧ w = w' := by
  have hn := nil_none p w h
  clear h
  go_enter Try.func25, Try.ntmps25
  go_wp2_with fail
  refine hn.mono ?_
  rintro e w1 ⟨rfl, rfl⟩
  go_wp2_with fail
  go_ret
  exact ⟨rfl, rfl⟩
end Go.Proofs.Ytafheojankmniaa
