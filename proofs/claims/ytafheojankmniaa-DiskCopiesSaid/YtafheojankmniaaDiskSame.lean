/- Contract of same, of the laws of disk. -/
import Derived.Test.YtafheojankmniaaDiskDo
namespace Go.Proofs.Ytafheojankmniaa
open Go.RowKit

set_option maxHeartbeats 2000000 in
theorem same_calls (d b r : Nat) (sw : Bool) (V : Int → Value) (D : DS) (w : World) (hD : DiskAt (fun k => k ≠ r) w d b sw V D) (hR : RefAt w r D) :
    Calls Try.prog 21 #[.pointer (some ⟨d, 0, none⟩), .pointer (some ⟨r, 0, none⟩)] w fun e w' => e = .returned (.bool true) ∧ Below w.heap.size w w' := by
  obtain ⟨c4, c5, c6, c7, cf⟩ := hR.cell
  go_enter Try.func21, Try.ntmps21
  go_wp2_with fail
  have hdead := fun n => dead_calls d b sw V D (w.drewN n) (hD.move (below_drewN (Below.refl _ _) n))
  have hlives := fun n => lives_calls d b sw V D (w.drewN n) (hD.move (below_drewN (Below.refl _ _) n))
  have hsteps := fun n => steps_calls d b sw V D (w.drewN n) (hD.move (below_drewN (Below.refl _ _) n))
  clear c5 cf
  generalize hoff : D.off = off at *
  generalize hll : D.lives = ll at *
  generalize hst : D.steps = st at *
  have Hx := Lib.hid (And.intro hoff (And.intro hll hst))
  clear hoff hll hst
  cases off
  · go_quiet (first | (go_at_call 23; exact quiet_left (hdead _)) | (go_at_call 27; exact quiet_left (hlives _)) | (go_at_call 24; exact quiet_left (hsteps _)))
    have hb1 : Below w.heap.size w (w.drewN nq) := below_drewN (Below.refl _ _) nq
    clear hdead hlives hsteps c4 c6 c7
    go_wp2_with fail
    go_loopw [5] (fun i wr => ∃ k : Nat, k ≤ 2 ∧ i = .int .i64 k ∧ Below w.heap.size w wr) (fun i _ => 2 - (intOf i).toNat)
    case atStart => exact ⟨0, by decide, rfl, hb1⟩
    case round =>
      clear hb1
      obtain ⟨k, hk, rfl, hbel⟩ := hrel
      by_cases hk2 : k < 2
      · have hD1 := hD.move hbel
        have hR1 := hR.move (hbel.block r (heap_lt hR.cells))
        have hs0 := hbel.size
        go_wp2_with fail
        refine (read_calls d b sw V D k wr hD1).mono ?_
        generalize hRD : readD D k = RD at *
        rintro e w2 ⟨⟨u, n, rfl, rfl, hown⟩, hb2⟩
        have hbel2 := below_then hbel hb2
        have hread := ref4read_calls r D k w2 (hR1.move (hb2.block r (heap_lt hR1.cells)))
        rw [hRD] at hread
        obtain ⟨A, c, rfl, hc, hrd'⟩ := own_rd hown
        have hs1 := run_str (P := Try.prog) (dst := 9) Try.underlying22 Try.underlying5 Try.underlying9 hrd' c
        clear hD1 hR1 hb2 hbel hown hrd'
        go_wp2_with fail
        refine hread.mono ?_
        rintro e w3 ⟨rfl, rfl⟩
        go_wp2_with fail
        go_roundw
        case rel => exact ⟨k + 1, by omega, by go_num, hbel2⟩
        case measure => simp [intOf]; omega
      · obtain rfl : k = 2 := by omega
        go_wp2_with fail
        go_ret
        exact ⟨rfl, hbel⟩
  · go_quiet (first | (go_at_call 23; exact quiet_left (hdead _)) | (go_at_call 27; exact quiet_left (hlives _)) | (go_at_call 24; exact quiet_left (hsteps _)))
    have hb1 : Below w.heap.size w (w.drewN nq) := below_drewN (Below.refl _ _) nq
    clear hdead hlives hsteps c4 c6 c7
    go_wp2_with fail
    go_loopw [5] (fun i wr => ∃ k : Nat, k ≤ 2 ∧ i = .int .i64 k ∧ Below w.heap.size w wr) (fun i _ => 2 - (intOf i).toNat)
    case atStart => exact ⟨0, by decide, rfl, hb1⟩
    case round =>
      clear hb1
      obtain ⟨k, hk, rfl, hbel⟩ := hrel
      by_cases hk2 : k < 2
      · have hD1 := hD.move hbel
        have hR1 := hR.move (hbel.block r (heap_lt hR.cells))
        have hs0 := hbel.size
        go_wp2_with fail
        refine (read_calls d b sw V D k wr hD1).mono ?_
        generalize hRD : readD D k = RD at *
        rintro e w2 ⟨⟨u, n, rfl, rfl, hown⟩, hb2⟩
        have hbel2 := below_then hbel hb2
        have hread := ref4read_calls r D k w2 (hR1.move (hb2.block r (heap_lt hR1.cells)))
        rw [hRD] at hread
        obtain ⟨A, c, rfl, hc, hrd'⟩ := own_rd hown
        have hs1 := run_str (P := Try.prog) (dst := 9) Try.underlying22 Try.underlying5 Try.underlying9 hrd' c
        clear hD1 hR1 hb2 hbel hown hrd'
        go_wp2_with fail
        refine hread.mono ?_
        rintro e w3 ⟨rfl, rfl⟩
        go_wp2_with fail
        go_roundw
        case rel => exact ⟨k + 1, by omega, by go_num, hbel2⟩
        case measure => simp [intOf]; omega
      · obtain rfl : k = 2 := by omega
        go_wp2_with fail
        go_ret
        exact ⟨rfl, hbel⟩
end Go.Proofs.Ytafheojankmniaa
