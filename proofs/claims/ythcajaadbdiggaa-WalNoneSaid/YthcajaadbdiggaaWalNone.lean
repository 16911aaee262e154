/- The walk of the law WalNone. -/
import Derived.Test.YthcajaadbdiggaaWalLaws
import Derived.Test.YthcajaadbdiggaaWalNil
namespace Go.Proofs.Ythcajaadbdiggaa
set_option maxRecDepth 1000000
open Go.RowKit

def dn1 : DS := { DS.new with armed := max 0 (-1) }
def dn2 : DS × Int := dn1.syncR 0
theorem dn_facts : dn2.1.off = true ∧ dn1.steps < 1099511627776 ∧ dn2.1.steps + 3 < 1099511627776 := by decide +kernel

set_option maxHeartbeats 4000000 in
theorem walnone_walk (w : World) :
    Calls Try.prog 4 #[] w fun e w' => e = .returned (.bool true) ∧ Below w.heap.size w w' := by
  obtain ⟨f1, f2, f3⟩ := dn_facts
  have hoff := wOpen_off f1
  go_enter Try.func4, Try.ntmps4
  have hz0 := alloc_new w (.cells #[.pointer none, .int .i64 0, .bool false, .int .i64 0, .int .u64 0, .int .i64 0, .int .i64 0] 43) _ rfl
  have hb0 := (Below.refl w.heap.size w).alloc (Nat.le_refl _) (.cells #[.pointer none, .int .i64 0, .bool false, .int .i64 0, .int .u64 0, .int .i64 0, .int .i64 0] 43)
  have hz : NoWal (w.alloc (.cells #[.pointer none, .int .i64 0, .bool false, .int .i64 0, .int .u64 0, .int .i64 0, .int .i64 0] 43)) (.pointer (some ⟨w.heap.size, 0, none⟩)) := .inr ⟨_, rfl, hz0⟩
  have hd : ∀ u : World, NoWal u (.pointer none) := fun u => .inl rfl
  go_wp2_with fail
  generalize w.alloc (.cells #[.pointer none, .int .i64 0, .bool false, .int .i64 0, .int .u64 0, .int .i64 0, .int .i64 0] 43) = W at *
  clear hz0
  refine (open_nil W).mono ?_
  rintro e w1 ⟨rfl, hb1⟩
  have hz1 := hz.move hb1
  have hbel1 := below_then hb0 hb1
  clear hz hb0 hb1
  go_wp2_with fail
  refine (new_calls Any w1).mono ?_
  rintro e w2 ⟨d, b, V, rfl, hD, hd2, hb2, hb12⟩
  have hz2 := hz1.move hb12
  have hbel2 := below_then hbel1 hb12
  have hzlt : w.heap.size < w1.heap.size := by
    rcases hz1 with h | ⟨z', h, hh⟩
    · cases h
    · injection h with h; injection h with h; injection h with h; subst h; exact heap_lt hh
  go_wp2_with fail
  refine (arm_calls d b false V DS.new 0 w2 hD (by decide)).mono ?_
  rintro e w3 ⟨rfl, hD3, ho3⟩
  change DiskAt Any w3 d b false V dn1 at hD3
  go_wp2_with fail
  refine (syncR_calls 0 hD3 f2).mono ?_
  rintro e w4 ⟨rfl, ⟨V4, hD4⟩, ho4⟩
  change DiskAt Any w4 d b false V4 dn2.1 at hD4
  have hret : Hid ((dn1.syncR 0).2 = (dn1.syncR 0).2) := Lib.hid rfl
  generalize (dn1.syncR 0).2 = E4
  go_wp2_with fail
  refine (open_calls (X := Any) d b false V4 dn2.1 w4 hD4 (fun _ _ => trivial) f3).mono ?_
  rintro e w5 (⟨W5, p, B, m, c, h1, -⟩ | ⟨-, -, rfl, -, ho5⟩)
  · rw [hoff] at h1; cases h1
  rw [hoff]
  have hz5 : NoWal w5 (.pointer (some ⟨w.heap.size, 0, none⟩)) := by
    rcases hz2 with h | ⟨z', h, hh⟩
    · cases h
    · injection h with h; injection h with h; injection h with h; subst h
      have hne : w.heap.size ≠ d ∧ w.heap.size ≠ b := ⟨by omega, by omega⟩
      have h3 := (ho3.block w.heap.size (heap_lt hh) hne.1 hne.2).trans hh
      have h4 := (ho4.block w.heap.size (heap_lt h3) hne.1 hne.2).trans h3
      exact .inr ⟨_, rfl, (ho5.block w.heap.size (heap_lt h4) hne.1 hne.2).trans h4⟩
  have hwz : w.heap.size ≤ w1.heap.size := by omega
  have hbel5 := ((hbel2.trans (ho3.below (by omega) (by omega) hbel2.size)).trans (ho4.below (by omega) (by omega) (Nat.le_trans hbel2.size ho3.size))).trans (ho5.below (by omega) (by omega) (Nat.le_trans (Nat.le_trans hbel2.size ho3.size) ho4.size))
  clear hz1 hz2 hbel1 hbel2 hb12 hD hD3 hD4 ho3 ho4 ho5 hd2 hb2 hzlt hwz hoff f1 f2 f3 hret
  go_wp2_with fail
  refine (begun_calls w5).mono ?_
  rintro e w6 ⟨rfl, hb6⟩
  have hz6 := hz5.move hb6
  have hbel6 := below_then hbel5 hb6
  clear hz5 hbel5 hb6
  go_wp2_with fail
  refine (nw_append _ _ w6 (hd w6)).mono ?_
  rintro e w7 ⟨rfl, rfl⟩
  go_wp2_with fail
  refine (nw_append _ _ w6 hz6).mono ?_
  rintro e w7 ⟨rfl, rfl⟩
  go_wp2_with fail
  refine (nw_rewrite _ _ w6 (hd w6)).mono ?_
  rintro e w7 ⟨rfl, rfl⟩
  go_wp2_with fail
  refine (nw_sync _ w6 hz6).mono ?_
  rintro e w7 ⟨rfl, rfl⟩
  go_wp2_with fail
  refine (nw_count _ w6 (hd w6)).mono ?_
  rintro e w7 ⟨rfl, rfl⟩
  go_wp2_with fail
  refine (nw_count _ w6 hz6).mono ?_
  rintro e w7 ⟨rfl, rfl⟩
  go_wp2_with fail
  refine (nw_bytes _ w6 (hd w6)).mono ?_
  rintro e w7 ⟨rfl, rfl⟩
  go_wp2_with fail
  refine (nw_bytes _ w6 hz6).mono ?_
  rintro e w7 ⟨rfl, rfl⟩
  go_wp2_with fail
  go_ret
  exact ⟨rfl, hbel6⟩
end Go.Proofs.Ythcajaadbdiggaa
