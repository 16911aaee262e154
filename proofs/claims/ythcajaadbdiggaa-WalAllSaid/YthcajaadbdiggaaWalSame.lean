/- The struct of a log and the document's: same. -/
import Derived.Test.YthcajaadbdiggaaWalBoth
import Derived.Test.YthcajaadbdiggaaWalInv
namespace Go.Proofs.Ythcajaadbdiggaa
set_option maxRecDepth 1000000
open Go.RowKit

set_option maxHeartbeats 8000000 in
theorem bsame_calls (base q d b r : Nat) (D : DS) (o : Option WS) (P Q : Value) (k5 : Nat) (w : World) (h : BothAt base w q d b r D o P Q) (hI : Inv5 D o k5) :
    Calls Try.prog 15 #[.pointer (some ⟨q, 0, none⟩)] w fun e w' => e = .returned (.bool true) ∧ Below w.heap.size w w' := by
  obtain ⟨V, hV⟩ := h.logs.disk
  go_enter Try.func15, Try.ntmps15
  go_wp2_with fail
  go_loopw [3] (fun i wr => ∃ f : Nat, f ≤ 2 ∧ i = .int .i64 f ∧ Below w.heap.size w wr) (fun i _ => 2 - (intOf i).toNat)
  case atStart => exact ⟨0, by decide, rfl, Below.refl _ _⟩
  case round =>
    obtain ⟨f, hf, rfl, hbel⟩ := hrel
    have hB := h.below hbel
    obtain ⟨c0, c1, c2, c3, cf⟩ := hB.cell
    by_cases hf2 : f < 2
    · have hread := read_calls d b false V D f wr (hV.move hbel)
      clear c2 c3 cf
      go_wp2_with fail
      refine hread.mono ?_
      rintro e w2 ⟨⟨u, n, rfl, hn, hown⟩, hb2⟩
      have hB2 := hB.below hb2
      obtain ⟨c0', c1', -⟩ := hB2.cell
      have hread2 := ref4read_calls r D f w2 hB2.ref
      obtain ⟨A, c, rfl, hnc, hrd⟩ := own_rd hown
      have hs1 := run_str (P := Try.prog) (dst := 9) Try.underlying35 Try.underlying5 Try.underlying9 hrd c
      have hbel2 := below_then hbel hb2
      have hee : ((readD D f).2 != (readD D f).2) = false := by simp
      have hss : ((txt (readD D f).1).toList == (txt (readD D f).1).toList) = true := by simp
      generalize readD D f = R at *
      clear hread hown hrd hnc hb2 hB2 hn c0 c1 hbel hB
      go_wp2_with fail
      refine hread2.mono ?_
      rintro e w3 ⟨rfl, rfl⟩
      go_wp2_with fail
      go_roundw
      case rel => exact ⟨f + 1, by omega, by go_num, hbel2⟩
      case measure => simp [intOf]; omega
    · obtain rfl : f = 2 := by omega
      cases o with
      | none =>
        obtain ⟨rfl, rfl, -⟩ := h.logs
        clear c0 c1 c2
        go_wp2_with fail
        go_ret
        exact ⟨rfl, hbel⟩
      | some W =>
        obtain ⟨p, x, v, rfl, rfl, hp, hx, -, -, V2, hD2⟩ := hB.logs
        have hI1 := hI.log W rfl
        have hR := hB.ref
        have Hsm := Lib.hid hI1.same
        obtain ⟨A9, c9, rfl, hcc9, hrd9⟩ := own_rd hx.own
        have a3 := (rwal_cell hx.cells).2.2.2.1
        have hov := over5_calls x r D W _ wr hx.cells hR
        clear hI1 hI hV hB h hrd9 hcc9
        cases hvt : wOver D W
        · rw [hvt] at hov
          go_wp2_with fail
          refine hov.mono ?_
          rintro e w2 ⟨rfl, m2, rfl⟩
          have hb2 := below_drewN (Below.refl wr.heap.size wr) m2
          have hR2 : RefAt (wr.drewN m2) r D := hR.move rfl
          have hx2 := hx.below hb2
          have hD3 := hD2.move hb2
          have hp2 : (wr.drewN m2).heap[p]? = some (walCells d W) := hp
          have hbel2 := below_then hbel hb2
          have c0' : (wr.drewN m2).cell? ⟨q, 1, none⟩ = some (.pointer (some ⟨r, 0, none⟩)) := c1
          have c2' : (wr.drewN m2).cell? ⟨q, 2, none⟩ = some (.pointer (some ⟨p, 0, none⟩)) := c2
          have c3' : (wr.drewN m2).cell? ⟨q, 3, none⟩ = some (.pointer (some ⟨x, 0, none⟩)) := c3
          clear hov hb2 hR hx hD2 hp hbel c0 c1 c2 c3 cf a3
          generalize wr.drewN m2 = w2 at *
          have a1 := (rwal_cell hx2.cells).2.1
          have hread := fun N => ref4read_calls r D W.f (w2.drewN N) (hR2.move rfl)
          go_wp2_with fail
          go_quiet (first | (go_at_call 46; exact quiet_left (hread _)))
          have hb3 : Below w2.heap.size w2 (w2.drewN nq) := below_drewN (Below.refl _ _) nq
          have hR3 : RefAt (w2.drewN nq) r D := hR2.move rfl
          have hD4 := hD3.move hb3
          have hp3 : (w2.drewN nq).heap[p]? = some (walCells d W) := hp2
          have hbel3 := below_then hbel2 hb3
          have c0 : (w2.drewN nq).cell? ⟨q, 1, none⟩ = some (.pointer (some ⟨r, 0, none⟩)) := c0'
          have c2 : (w2.drewN nq).cell? ⟨q, 2, none⟩ = some (.pointer (some ⟨p, 0, none⟩)) := c2'
          obtain ⟨d4, -⟩ := hR3.cell
          clear hread hR2 hx2 hD3 hp2 hbel2 c0' c2' c3' a1 hb3
          generalize w2.drewN nq = w3 at *
          cases hoff : D.off
          · have hs := Hsm.out hvt hoff
            have hrd : readD D W.f = (D.b W.f, 0) := by
              have hoff' : ¬ D.off = true := by rw [hoff]; simp
              unfold readD mayE; rw [if_neg hoff', if_pos hs.1, if_pos rfl]
            rw [hrd]
            have hts := txt_size (D.b W.f)
            rw [← hs.2] at hts
            have hbe : ((W.bytes : Int) == ((D.b W.f).length : Int)) = true := by rw [hs.2]; simp
            rw [hoff] at d4
            have hcnt := wcount_calls p d b false V2 D W w3 hp3 hD4
            rw [hvt, if_neg (by simp)] at hcnt
            generalize txt (D.b W.f) = S9 at *
            clear hrd
            go_wp2_with fail
            refine hcnt.mono ?_
            rintro e w4 ⟨rfl, m4, rfl⟩
            have hb4 := below_drewN (Below.refl w3.heap.size w3) m4
            have hbt := wbytes_calls p d b false V2 D W (w3.drewN m4) hp3 (hD4.move hb4)
            rw [hvt, if_neg (by simp)] at hbt
            have c2 : (w3.drewN m4).cell? ⟨q, 2, none⟩ = some (.pointer (some ⟨p, 0, none⟩)) := c2
            have hbel4 := below_then hbel3 hb4
            clear hcnt hR3 hD4 hp3 d4 hbel3 c0 hb4 hs
            generalize w3.drewN m4 = w4 at *
            go_wp2_with fail
            refine hbt.mono ?_
            rintro e w5 ⟨rfl, m5, rfl⟩
            have hbel5 := below_then hbel4 (below_drewN (Below.refl w4.heap.size w4) m5)
            go_wp2_with fail
            go_ret
            exact ⟨rfl, hbel5⟩
          · rw [hoff] at d4
            clear hR3 hD4 hp3 c2
            generalize readD D W.f = R at *
            go_wp2_with fail
            go_ret
            exact ⟨rfl, hbel3⟩
        · rw [hvt] at hov
          go_wp2_with fail
          refine hov.mono ?_
          rintro e w2 ⟨rfl, m2, rfl⟩
          have hb2 := below_drewN (Below.refl wr.heap.size wr) m2
          have hR3 : RefAt (wr.drewN m2) r D := hR.move rfl
          have hD4 := hD2.move hb2
          have hp3 : (wr.drewN m2).heap[p]? = some (walCells d W) := hp
          have hbel3 := below_then hbel hb2
          have c0' : (wr.drewN m2).cell? ⟨q, 1, none⟩ = some (.pointer (some ⟨r, 0, none⟩)) := c1
          have c2' : (wr.drewN m2).cell? ⟨q, 2, none⟩ = some (.pointer (some ⟨p, 0, none⟩)) := c2
          obtain ⟨d4, -⟩ := hR3.cell
          clear hov hb2 hR hx hD2 hp hbel c0 c1 c2 c3 cf a3
          generalize wr.drewN m2 = w3 at *
          cases hoff : D.off
          · rw [hoff] at d4
            have hcnt := wcount_calls p d b false V2 D W w3 hp3 hD4
            rw [hvt, if_pos rfl] at hcnt
            go_wp2_with fail
            refine hcnt.mono ?_
            rintro e w4 ⟨rfl, m4, rfl⟩
            have hb4 := below_drewN (Below.refl w3.heap.size w3) m4
            have hbt := wbytes_calls p d b false V2 D W (w3.drewN m4) hp3 (hD4.move hb4)
            rw [hvt, if_pos rfl] at hbt
            have c2 : (w3.drewN m4).cell? ⟨q, 2, none⟩ = some (.pointer (some ⟨p, 0, none⟩)) := c2'
            have hbel4 := below_then hbel3 hb4
            clear hcnt hR3 hD4 hp3 d4 hbel3 c0' c2' hb4
            generalize w3.drewN m4 = w4 at *
            go_wp2_with fail
            refine hbt.mono ?_
            rintro e w5 ⟨rfl, m5, rfl⟩
            have hbel5 := below_then hbel4 (below_drewN (Below.refl w4.heap.size w4) m5)
            go_wp2_with fail
            go_ret
            exact ⟨rfl, hbel5⟩
          · rw [hoff] at d4
            clear hR3 hD4 hp3 c2'
            go_wp2_with fail
            go_ret
            exact ⟨rfl, hbel3⟩
end Go.Proofs.Ythcajaadbdiggaa
