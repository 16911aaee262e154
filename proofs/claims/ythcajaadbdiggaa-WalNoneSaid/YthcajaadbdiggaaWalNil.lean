/- Contracts of the operations of no log, and Open of no disk. -/
import Derived.Test.YthcajaadbdiggaaWalOpen
import Derived.Test.YthcajaadbdiggaaDiskNil
namespace Go.Proofs.Ythcajaadbdiggaa
set_option maxRecDepth 1000000
open Go.RowKit

/-- a nil log, or a zero one -/
def NoWal (w : World) (p : Value) : Prop := p = .pointer none ∨ ∃ z : Nat, p = .pointer (some ⟨z, 0, none⟩) ∧ w.heap[z]? = some (.cells #[.pointer none, .int .i64 0, .bool false, .int .i64 0, .int .u64 0, .int .i64 0, .int .i64 0] 43 (0, 0))
theorem NoWal.move {w w' : World} {p : Value} (h : NoWal w p) (hb : Below w.heap.size w w') : NoWal w' p := by
  rcases h with rfl | ⟨z, rfl, hz⟩
  · exact .inl rfl
  · exact .inr ⟨z, rfl, (hb.block z (heap_lt hz)).trans hz⟩
theorem nw_none (p : Value) (w : World) (h : NoWal w p) : Calls Try.prog 53 #[p] w fun e w' => e = .returned (.bool true) ∧ w = w' := by
  rcases h with rfl | ⟨z, rfl, hz⟩
  · go_enter Try.func53, Try.ntmps53
    go_wp2_with fail
    go_ret
    exact ⟨rfl, rfl⟩
  · have c0 : w.cell? ⟨z, 0, none⟩ = some (.pointer none) := by rw [cell_row hz]; rfl
    go_enter Try.func53, Try.ntmps53
    go_wp2_with fail
    go_ret
    exact ⟨rfl, rfl⟩
theorem nw_append (p u : Value) (w : World) (h : NoWal w p) : Calls Try.prog 19 #[p, u] w fun e w' => e = .returned (.int .i64 1) ∧ w = w' := by
  have hn := nw_none p w h
  clear h
  go_enter Try.func19, Try.ntmps19
  go_wp2_with fail
  refine hn.mono ?_
  rintro e w1 ⟨rfl, rfl⟩
  go_wp2_with fail
  go_ret
  exact ⟨rfl, rfl⟩
theorem nw_sync (p : Value) (w : World) (h : NoWal w p) : Calls Try.prog 21 #[p] w fun e w' => e = .returned (.int .i64 1) ∧ w = w' := by
  have hn := nw_none p w h
  clear h
  go_enter Try.func21, Try.ntmps21
  go_wp2_with fail
  refine hn.mono ?_
  rintro e w1 ⟨rfl, rfl⟩
  go_wp2_with fail
  go_ret
  exact ⟨rfl, rfl⟩
theorem nw_rewrite (p u : Value) (w : World) (h : NoWal w p) : Calls Try.prog 20 #[p, u] w fun e w' => e = .returned (.int .i64 1) ∧ w = w' := by
  have hn := nw_none p w h
  clear h
  go_enter Try.func20, Try.ntmps20
  go_wp2_with fail
  refine hn.mono ?_
  rintro e w1 ⟨rfl, rfl⟩
  go_wp2_with fail
  go_ret
  exact ⟨rfl, rfl⟩
theorem nw_count (p : Value) (w : World) (h : NoWal w p) : Calls Try.prog 22 #[p] w fun e w' => e = .returned (.int .i64 0) ∧ w = w' := by
  have hn := nw_none p w h
  clear h
  go_enter Try.func22, Try.ntmps22
  go_wp2_with fail
  refine hn.mono ?_
  rintro e w1 ⟨rfl, rfl⟩
  go_wp2_with fail
  go_ret
  exact ⟨rfl, rfl⟩
theorem nw_bytes (p : Value) (w : World) (h : NoWal w p) : Calls Try.prog 23 #[p] w fun e w' => e = .returned (.int .i64 0) ∧ w = w' := by
  have hn := nw_none p w h
  clear h
  go_enter Try.func23, Try.ntmps23
  go_wp2_with fail
  refine hn.mono ?_
  rintro e w1 ⟨rfl, rfl⟩
  go_wp2_with fail
  go_ret
  exact ⟨rfl, rfl⟩

set_option maxHeartbeats 4000000 in
theorem open_nil (w : World) :
    Calls Try.prog 16 #[.pointer none] w fun e w' => e = .returned (.tuple #[.pointer none, .slice none 0 0, .int .i64 1]) ∧ Below w.heap.size w w' := by
  have hlives := nil_lives (.pointer none) w (.inl rfl)
  have hread := fun u : World => nil_read (.pointer none) 0 u (.inl rfl)
  go_enter Try.func16, Try.ntmps16
  go_wp2_with fail
  refine hlives.mono ?_
  rintro e w1 ⟨rfl, rfl⟩
  have hb0 := ((Below.refl w.heap.size w).alloc (Nat.le_refl _) (.cells #[.pointer none, .int .i64 0, .bool false, .int .i64 (-1), .int .u64 0, .int .i64 0, .int .i64 0] 43)).alloc (by simp) zeroRead
  go_wp2_with fail
  change Code.wp _ _ _ _ ((w.alloc (.cells #[.pointer none, .int .i64 0, .bool false, .int .i64 (-1), .int .u64 0, .int .i64 0, .int .i64 0] 43)).alloc zeroRead)
  generalize (w.alloc (.cells #[.pointer none, .int .i64 0, .bool false, .int .i64 (-1), .int .u64 0, .int .i64 0, .int .i64 0] 43)).alloc zeroRead = W0 at *
  clear hlives
  go_loopw [17] (fun i wr => i = .int .i64 0 ∧ Below w.heap.size w wr) (fun _ _ => 0)
  case atStart => exact ⟨rfl, hb0⟩
  case round =>
    clear hb0
    obtain ⟨rfl, hbel⟩ := hrel
    have hread1 := hread wr
    clear hread
    go_wp2_with fail
    refine hread1.mono ?_
    rintro e w2 ⟨rfl, rfl⟩
    go_wp2_with fail
    go_ret3
    exact ⟨rfl, hbel⟩
end Go.Proofs.Ythcajaadbdiggaa
