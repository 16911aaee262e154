/- The walk of the law DiskNone. -/
import Derived.Test.YtafheojankmniaaDiskLaws
import Derived.Test.YtafheojankmniaaDiskNil
namespace Go.Proofs.Ytafheojankmniaa
open Go.RowKit

set_option maxHeartbeats 2000000 in
theorem disknone_walk (w : World) :
    Calls Try.prog 8 #[] w fun e w' => e = .returned (.bool true) ∧ Below w.heap.size w w' := by
  go_enter Try.func8, Try.ntmps8
  have hz0 := alloc_new w (.cells #[.map none, .int .i64 0, .bool false, .int .i64 0, .int .i64 0] 51) _ rfl
  have hb0 := (Below.refl w.heap.size w).alloc (Nat.le_refl _) (.cells #[.map none, .int .i64 0, .bool false, .int .i64 0, .int .i64 0] 51)
  have hz : NoDisk (w.alloc (.cells #[.map none, .int .i64 0, .bool false, .int .i64 0, .int .i64 0] 51)) (.pointer (some ⟨w.heap.size, 0, none⟩)) := .inr ⟨_, rfl, hz0⟩
  have hd : ∀ u : World, NoDisk u (.pointer none) := fun u => .inl rfl
  go_wp2_with fail
  generalize w.alloc (.cells #[.map none, .int .i64 0, .bool false, .int .i64 0, .int .i64 0] 51) = W at *
  refine (nil_arm _ 1 W (hd W)).mono ?_
  rintro e w1 ⟨rfl, rfl⟩
  go_wp2_with fail
  refine (nil_power _ _ W hz).mono ?_
  rintro e w1 ⟨rfl, rfl⟩
  go_wp2_with fail
  refine (nil_read _ 0 W (hd W)).mono ?_
  rintro e w1 ⟨rfl, rfl⟩
  go_wp2_with fail
  refine (begun_calls W).mono ?_
  rintro e w2 ⟨rfl, hb2⟩
  have hz2 := hz.move hb2
  have hbel := below_then hb0 hb2
  go_wp2_with fail
  refine (nil_append _ 0 _ w2 (hd w2)).mono ?_
  rintro e w1 ⟨rfl, rfl⟩
  go_wp2_with fail
  refine (nil_sync _ 0 w2 hz2).mono ?_
  rintro e w1 ⟨rfl, rfl⟩
  go_wp2_with fail
  refine (nil_clear _ 1 w2 hz2).mono ?_
  rintro e w1 ⟨rfl, rfl⟩
  go_wp2_with fail
  refine (nil_dead _ w2 (hd w2)).mono ?_
  rintro e w1 ⟨rfl, rfl⟩
  go_wp2_with fail
  refine (nil_dead _ w2 hz2).mono ?_
  rintro e w1 ⟨rfl, rfl⟩
  go_wp2_with fail
  refine (nil_lives _ w2 (hd w2)).mono ?_
  rintro e w1 ⟨rfl, rfl⟩
  go_wp2_with fail
  refine (nil_lives _ w2 hz2).mono ?_
  rintro e w1 ⟨rfl, rfl⟩
  go_wp2_with fail
  refine (nil_steps _ w2 (hd w2)).mono ?_
  rintro e w1 ⟨rfl, rfl⟩
  go_wp2_with fail
  refine (nil_steps _ w2 hz2).mono ?_
  rintro e w1 ⟨rfl, rfl⟩
  go_wp2_with fail
  refine (nil_copy _ w2 (hd w2)).mono ?_
  rintro e w1 ⟨rfl, rfl⟩
  go_wp2_with fail
  refine (nil_copy _ w2 hz2).mono ?_
  rintro e w1 ⟨rfl, rfl⟩
  go_wp2_with fail
  go_ret
  exact ⟨rfl, hbel⟩
end Go.Proofs.Ytafheojankmniaa
