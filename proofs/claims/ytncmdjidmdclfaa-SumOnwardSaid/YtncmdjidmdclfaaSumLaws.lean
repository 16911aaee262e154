/- Contract of begun of the laws of sum. -/
import Derived.Test.YtncmdjidmdclfaaSum
import Derived.Lib.SlBytesConst
import Derived.Lib.SmallJoins
namespace Go.Proofs.Ytncmdjidmdclfaa
open Go.RowKit

set_option maxHeartbeats 400000 in
theorem begun_calls (w : World) :
    Calls Try.prog 8 #[] w fun e w' => e = .returned (.bool true) ∧ Below w.heap.size w w' := by
  have kc := fun (C : Array Value) (n c : Nat) => Lib.run_convert_bytes_const (P := Try.prog) w 27 5 C n c Try.underlying27 Try.underlying5
  have kc2 := fun (o : Obj) (C : Array Value) (n c : Nat) => Joins.run_convert_bytes_const_at (P := Try.prog) (w.alloc o) 27 5 C n c (w.heap.size + 1) (by simp) Try.underlying27 Try.underlying5
  go_enter Try.func8, Try.ntmps8
  go_wp2_with fail
  have hb : Below w.heap.size w (((w.alloc (.cells #[.int .u8 49, .int .u8 50, .int .u8 51, .int .u8 52] 5 (4, 5))).alloc (.cells #[.int .u8 53, .int .u8 54, .int .u8 55, .int .u8 56, .int .u8 57] 5 (5, 6))).alloc
      (.cells #[.slice (some ⟨w.heap.size, 0, none⟩) 4 4, .slice (some ⟨w.heap.size + 1, 0, none⟩) 5 5] 27)) :=
    (((Below.refl _ _).alloc (Nat.le_refl _) _).alloc (by simp) _).alloc (by simp; omega) _
  have hr : RdL (((w.alloc (.cells #[.int .u8 49, .int .u8 50, .int .u8 51, .int .u8 52] 5 (4, 5))).alloc (.cells #[.int .u8 53, .int .u8 54, .int .u8 55, .int .u8 56, .int .u8 57] 5 (5, 6))).alloc
      (.cells #[.slice (some ⟨w.heap.size, 0, none⟩) 4 4, .slice (some ⟨w.heap.size + 1, 0, none⟩) 5 5] 27)) (some ⟨w.heap.size + 1 + 1, 0, none⟩) 2 [[49, 50, 51, 52], [53, 54, 55, 56, 57]] := by
    refine ⟨rfl, fun _ => ⟨_, rfl, fun j l hl => ?_⟩⟩
    have h0 := alloc_old (o' := .cells #[.slice (some ⟨w.heap.size, 0, none⟩) 4 4, .slice (some ⟨w.heap.size + 1, 0, none⟩) 5 5] 27) (alloc_old (o' := .cells #[.int .u8 53, .int .u8 54, .int .u8 55, .int .u8 56, .int .u8 57] 5 (5, 6)) (alloc_new w (.cells #[.int .u8 49, .int .u8 50, .int .u8 51, .int .u8 52] 5 (4, 5)) _ rfl))
    have h1 := alloc_old (o' := .cells #[.slice (some ⟨w.heap.size, 0, none⟩) 4 4, .slice (some ⟨w.heap.size + 1, 0, none⟩) 5 5] 27) (alloc_new (w.alloc (.cells #[.int .u8 49, .int .u8 50, .int .u8 51, .int .u8 52] 5 (4, 5))) (.cells #[.int .u8 53, .int .u8 54, .int .u8 55, .int .u8 56, .int .u8 57] 5 (5, 6)) (w.heap.size + 1) (by simp))
    rw [add_at0, Nat.zero_add, cell_row (alloc_new _ _ _ (by simp))]
    match j, hl with
    | 0, hl => injection hl with hl; subst hl; exact ⟨_, _, rfl, by decide, Rd.of_row h0 rfl rfl⟩
    | 1, hl => injection hl with hl; subst hl; exact ⟨_, _, rfl, by decide, Rd.of_row h1 rfl rfl⟩
  refine (of_calls _ 2 2 [[49, 50, 51, 52], [53, 54, 55, 56, 57]] _ hr (by decide) (by decide)).mono ?_
  rintro e w' ⟨rfl, rfl⟩
  have hc : CRC.crc 0 (nat8 [[49, 50, 51, 52], [53, 54, 55, 56, 57]].flatten) = 3808858755 := by decide +kernel
  rw [hc]
  clear hr hc
  go_wp2
  go_ret
  exact ⟨rfl, hb⟩
end Go.Proofs.Ytncmdjidmdclfaa
