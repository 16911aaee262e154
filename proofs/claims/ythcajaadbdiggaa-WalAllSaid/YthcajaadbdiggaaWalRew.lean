/- Contract of Rewrite. -/
import Derived.Test.YthcajaadbdiggaaWalOps
namespace Go.Proofs.Ythcajaadbdiggaa
set_option maxRecDepth 1000000
open Go.RowKit
variable {X : Nat → Prop}

theorem wRew_over {D : DS} {W : WS} {l : List (List UInt8)} (h : wOver D W = true) : wRew D W l = (D, W, 6) := by unfold wRew; rw [if_pos h]
theorem wRew_long {D : DS} {W : WS} {l : List (List UInt8)} (h : ¬ wOver D W = true) (h2 : tooLong l = true) : wRew D W l = (D, W, 3) := by unfold wRew; rw [if_neg h, if_pos h2]
theorem wRew_full {D : DS} {W : WS} {l : List (List UInt8)} (h : ¬ wOver D W = true) (h2 : ¬ tooLong l = true) (h3 : 4611686018427387904 ≤ W.gen + 1) : wRew D W l = (D, W, 8) := by unfold wRew; rw [if_neg h, if_neg h2, if_pos h3]
structure RewPre (D : DS) (W : WS) (l : List (List UInt8)) : Prop where
  over : ¬ wOver D W = true
  short : ¬ tooLong l = true
  gen : ¬ 4611686018427387904 ≤ W.gen + 1
theorem wRew_clear {D : DS} {W : WS} {l : List (List UInt8)} (h : RewPre D W l) {C : DS × Int} (hC : D.clearR (otherF W.f) = C) (h1 : C.2 ≠ 0) : wRew D W l = (C.1, { W with done := true }, C.2) := by
  unfold wRew; rw [if_neg h.over, if_neg h.short, if_neg h.gen]; simp only [hC]; rw [if_pos h1]
theorem wRew_app {D : DS} {W : WS} {l : List (List UInt8)} (h : RewPre D W l) {C A : DS × Int} (hC : D.clearR (otherF W.f) = C) (h1 : C.2 = 0) (hA : C.1.appR (otherF W.f) (fileOf (W.gen + 1) l) = A) (h2 : A.2 ≠ 0) : wRew D W l = (A.1, { W with done := true }, A.2) := by
  unfold wRew; rw [if_neg h.over, if_neg h.short, if_neg h.gen]; simp only [hC]; rw [if_neg (by simpa using h1)]; simp only [hA]; rw [if_pos h2]
theorem wRew_sync {D : DS} {W : WS} {l : List (List UInt8)} (h : RewPre D W l) {C A S : DS × Int} (hC : D.clearR (otherF W.f) = C) (h1 : C.2 = 0) (hA : C.1.appR (otherF W.f) (fileOf (W.gen + 1) l) = A) (h2 : A.2 = 0) (hS : A.1.syncR (otherF W.f) = S) (h3 : S.2 ≠ 0) : wRew D W l = (S.1, { W with done := true }, S.2) := by
  unfold wRew; rw [if_neg h.over, if_neg h.short, if_neg h.gen]; simp only [hC]; rw [if_neg (by simpa using h1)]; simp only [hA]; rw [if_neg (by simpa using h2)]; simp only [hS]; rw [if_pos h3]
theorem wRew_ok {D : DS} {W : WS} {l : List (List UInt8)} (h : RewPre D W l) {C A S : DS × Int} (hC : D.clearR (otherF W.f) = C) (h1 : C.2 = 0) (hA : C.1.appR (otherF W.f) (fileOf (W.gen + 1) l) = A) (h2 : A.2 = 0) (hS : A.1.syncR (otherF W.f) = S) (h3 : S.2 = 0) :
    wRew D W l = (S.1, { W with f := otherF W.f, gen := W.gen + 1, recs := l, bytes := (fileOf (W.gen + 1) l).length }, 0) := by
  unfold wRew; rw [if_neg h.over, if_neg h.short, if_neg h.gen]; simp only [hC]; rw [if_neg (by simpa using h1)]; simp only [hA]; rw [if_neg (by simpa using h2)]; simp only [hS]; rw [if_neg (by simpa using h3)]

theorem body_next {g : Nat} {l : List (List UInt8)} {k : Nat} {r : List UInt8} (h : l[k]? = some r) : body g (l.take (k + 1)) = body g (l.take k) ++ recR r := by
  unfold body; rw [List.take_add_one, h]; simp
theorem walBody_length (g : Nat) (l : List (List UInt8)) : (body g l).length = l.flatten.length + 9 * l.length + 17 := by
  have := fileOf_length g l
  unfold fileOf at this
  rw [List.length_append, enc_length] at this
  simp at this ⊢; omega
theorem flat_take_le (l : List (List UInt8)) (k : Nat) : (l.take k).flatten.length ≤ l.flatten.length := by
  have e : l.flatten = (l.take k).flatten ++ (l.drop k).flatten := by rw [← List.flatten_append, List.take_append_drop]
  rw [e, List.length_append]; omega
theorem one_le_flat {l : List (List UInt8)} {k : Nat} {r : List UInt8} (h : l[k]? = some r) : r.length ≤ l.flatten.length := by
  have h1 := flat_len h
  have h2 := flat_take_le l (k + 1)
  omega

set_option maxHeartbeats 8000000 in
theorem wrew_calls (p d b : Nat) (sw : Bool) (V : Int → Value) (D : DS) (W : WS) (A : Option Addr) (n cap : Nat) (l : List (List UInt8)) (w : World) (h : w.heap[p]? = some (walCells d W)) (hD : DiskAt X w d b sw V D) (hp : p ≠ d ∧ p ≠ b) (hX : ∀ k, X k → k ≠ p) (hX2 : ∀ k, w.heap.size ≤ k → X k) (hs : D.steps + 3 < 1099511627776)
    (hr : RdL w A n l) (hn : n ≤ 1048576) (ht : l.flatten.length ≤ 67108864) (hg : W.gen ≤ 4611686018427387904) (hf : W.f = -1 ∨ W.f = 0 ∨ W.f = 1) :
    Calls Try.prog 20 #[.pointer (some ⟨p, 0, none⟩), .slice A n cap] w fun e w' => WPost X w p d b sw (wRew D W l) e w' := by
  have hno := wnone_calls p d W w h
  have hov := wover_calls p d b sw V D W w h hD
  by_cases hv : wOver D W = true
  · rw [hv] at hov
    have Hfin : ∀ m, Hid (WPost X w p d b sw (wRew D W l) (.returned (.int .i64 6)) (w.drewN m)) := fun m => Lib.hid (by rw [wRew_over hv]; exact ⟨rfl, ⟨V, hD.move (below_drewN (Below.refl _ _) m)⟩, h, onlyS_drewN w m⟩)
    clear h hD hv
    go_enter Try.func20, Try.ntmps20
    go_wp2_with fail
    refine hno.mono ?_
    rintro e w1 ⟨rfl, rfl⟩
    go_wp2_with fail
    refine hov.mono ?_
    rintro e w1 ⟨rfl, m, rfl⟩
    go_wp2_with fail
    go_ret
    exact (Hfin m).out
  · rw [Bool.eq_false_iff.2 hv] at hov
    go_enter Try.func20, Try.ntmps20
    go_wp2_with fail
    refine hno.mono ?_
    rintro e w1 ⟨rfl, rfl⟩
    go_wp2_with fail
    refine hov.mono ?_
    rintro e w1 ⟨rfl, m, rfl⟩
    have hbm := below_drewN (Below.refl w.heap.size w) m
    have h1 : (w.drewN m).heap[p]? = some (walCells d W) := h
    have hD1 := hD.move hbm
    have hr1 := hr.below hbm
    have Hv := Lib.hid hv
    have Hh := Lib.hid h
    have HD := Lib.hid hD
    have Hwm := Lib.hid (show (w.drewN m).heap.size = w.heap.size from rfl)
    clear h hno hov hv
    generalize w.drewN m = Wm at *
    go_wp2_with fail
    go_loop [27] (fun i => ∃ k : Nat, k ≤ n ∧ i = .int .i64 k ∧ Hid (tooLong (l.take k) = false)) (fun i => n - (intOf i).toNat)
    case atStart => exact ⟨0, Nat.zero_le _, rfl, (show tooLong [] = false from rfl)⟩
    case round =>
      obtain ⟨k, hk, rfl, Hk⟩ := hrel
      by_cases hlt : k < n
      · obtain ⟨ad, r, B, c, rfl, hl, hcell, _, _⟩ := hr1.at_ hlt
        have hk0 : (0 : Int) ≤ k := by omega
        have hk1 : (k : Int) < n := by omega
        by_cases hlong : 1048575 < r.length
        · have hL : tooLong l = true := List.any_eq_true.2 ⟨r, List.mem_of_getElem? hl, by simpa using hlong⟩
          have Hfin : Hid (WPost X w p d b sw (wRew D W l) (.returned (.int .i64 3)) Wm) := Lib.hid (by rw [wRew_long Hv.out hL]; exact ⟨rfl, ⟨V, hD1⟩, h1, OnlyS.of_below hbm⟩)
          clear hL hl h1 hD1 hD hr hr1
          go_wp2_with fail
          go_ret
          exact Hfin.out
        · have Hk2 : Hid (tooLong (l.take (k + 1)) = false) := Lib.hid (by
            have h0 := Hk.out
            unfold tooLong at h0 ⊢
            rw [List.take_add_one, hl, List.any_append, h0]
            simpa using hlong)
          clear hl
          go_wp2_with fail
          go_round
          case rel => exact ⟨k + 1, by omega, by go_num, Hk2⟩
          case measure => simp [intOf]; omega
      · obtain rfl : k = n := by omega
        have hlen := hr1.len
        have hL : tooLong l = false := by have := Hk.out; rwa [List.take_of_length_le (by omega)] at this
        obtain ⟨c0, c1, c2, c3, c4, c5, c6, cf⟩ := wal_cell h1
        by_cases hfull : 4611686018427387904 ≤ W.gen + 1
        · have Hfin : Hid (WPost X w p d b sw (wRew D W l) (.returned (.int .i64 8)) Wm) := Lib.hid (by rw [wRew_full Hv.out (by rw [hL]; simp) hfull]; exact ⟨rfl, ⟨V, hD1⟩, h1, OnlyS.of_below hbm⟩)
          clear hL h1 hD1 hD hr hr1 Hk c0 c1 c2 c3 c5 c6 cf hlen hX hX2 hs ht Hv
          have hg1 : (4611686018427387904 : Int) ≤ (W.gen : Int) + 1 := by omega
          have hg2 : (W.gen : Int) ≤ 4611686018427387904 := by omega
          clear hfull hg
          go_wp2_with fail
          go_ret
          exact Hfin.out
        · have Hpre : Hid (RewPre D W l) := Lib.hid ⟨Hv.out, by rw [hL]; simp, hfull⟩
          have hg1 : ((4611686018427387904 : Int) ≤ (W.gen : Int) + 1) = False := eq_false (by omega)
          have hg2 : (W.gen : Int) ≤ 4611686018427387904 := by omega
          obtain ⟨G, hG⟩ : ∃ G, W.gen + 1 = G := ⟨_, rfl⟩
          have hGi : (G : Int) = (W.gen : Int) + 1 := by omega
          have hG62 : G < 4611686018427387904 := by omega
          have Hflat := Lib.hid ht
          have Hlen := Lib.hid hlen
          have hba := (Below.refl Wm.heap.size Wm).alloc (Nat.le_refl _) (.cells #[.int .u8 71] 5)
          have h2 := (hba.block p (heap_lt h1)).trans h1
          have c4' := (wal_cell h2).2.2.2.2.1
          have hrG : Rd (Wm.alloc (.cells #[.int .u8 71] 5)) (some ⟨Wm.heap.size, 0, none⟩) 1 (ub [71]) := rd_one Wm _ 5
          have hput := put_calls (some ⟨Wm.heap.size, 0, none⟩) 1 1 [71] G 8 _ hrG (by decide) (by decide) (by decide) (by omega) (by omega)
          rw [hGi] at hput
          have HG := Lib.hid hG
          have HG62 := Lib.hid hG62
          have hD2 := hD1.move hba
          have hr2 := hr1.below hba
          have hb2 : Below w.heap.size w (Wm.alloc (.cells #[.int .u8 71] 5)) := hbm.trans (hba.mono (Nat.le_of_eq Hwm.out.symm))
          have Hr := Lib.hid hr
          clear hL Hk Hv hD hr hfull hg hlen hG hGi hG62 ht h1 hD1 hr1 hrG hba
          go_wp2_with fail
          clear c0 c1 c2 c3 c4 c5 c6 cf c4' hg1 hg2
          generalize Wm.alloc (.cells #[.int .u8 71] 5) = W1 at *
          refine hput.mono ?_
          rintro e w2 ⟨⟨u, rfl, hown⟩, hb3⟩
          change w2.ownsRow W1.heap.size 5 1 u 9 (ub (71 :: be 8 G)) at hown
          obtain ⟨B, c, rfl, hc, hrd⟩ := own_rd hown
          have hb4 := below_then hb2 hb3
          have h3 := (hb3.block p (heap_lt h2)).trans h2
          have hD3 := hD2.move hb3
          have hr3 := hr2.below hb3
          clear hput hown h2 hD2 hr2 hb2 hb3
          go_wp2_with fail
          refine (fput_calls none B 0 0 9 c [] (71 :: be 8 G) w2 (Rd.none_ _ _) hrd hc (by decide) (by decide)).mono ?_
          rintro e w3 ⟨⟨u, q, rfl, hq, hown⟩, hb5⟩
          rw [List.nil_append] at hown
          have hbel := below_then hb4 hb5
          have h4 := (hb5.block p (heap_lt h3)).trans h3
          have hD4 := hD3.move hb5
          have hr4 := hr3.below hb5
          have hw2 := hb4.size
          have hown2 := own_weaken hown hw2
          have Hq : Hid (q = (body G (l.take 0)).length) := Lib.hid (by rw [hq, walBody_length]; simp)
          have Hb0 : Hid (enc (71 :: be 8 G) = body G (l.take 0)) := Lib.hid (by simp [body])
          rw [Hb0.out] at hown2
          clear hrd hown h3 hD3 hr3 hb4 hb5 hq Hb0
          go_wp2_with fail
          have H4 := Lib.hid h4
          clear h4 hr4 hw2
          go_loopw [9, 58] (fun bs i wr => ∃ j q : Nat, j ≤ k ∧ i = .int .i64 j ∧ Hid (q = (body G (l.take j)).length) ∧ wr.ownsRow w.heap.size 5 1 bs q (ub (body G (l.take j))) ∧ Below w.heap.size w wr) (fun _ i _ => k - (intOf i).toNat)
          case atStart => exact ⟨0, q, Nat.zero_le _, rfl, Hq, hown2, hbel⟩
          case round =>
            clear hown2 Hq H4 hD4 hbel
            obtain ⟨j, q, hj, rfl, Hq, hownb, hbel⟩ := hrel
            have hqb : q ≤ 134217728 := by have h1 := Hq.out; have h2 := walBody_length G (l.take j); have h3 := flat_take_le l j; have h4 := Hflat.out; rw [List.length_take] at h2; omega
            by_cases hlt : j < k
            · obtain ⟨ad, r, B2, c2, rfl, hl, hcell, _, hrr⟩ := (Hr.out.below hbel).at_ hlt
              have hj0 : (0 : Int) ≤ j := by omega
              have hj1 : (j : Int) < k := by omega
              have hrl := one_le_flat hl
              have hrl2 : r.length ≤ 1048575 := by
                have h0 := Hpre.out.short
                have h5 := fun hh => h0 (List.any_eq_true.2 ⟨r, List.mem_of_getElem? hl, hh⟩)
                simpa using h5
              have Hnx := Lib.hid (body_next (g := G) hl)
              clear hl hrl
              have hown1 := own_one wr (base := wr.heap.size) (Nat.le_refl _) (.int .u8 82) 5
              have hba := (Below.refl wr.heap.size wr).alloc (Nat.le_refl _) (.cells #[.int .u8 82] 5)
              have hr5 := hrr.below hba
              go_wp2_with (at_builtin; refine wpList_app rfl _ _ _ rfl 5 (.int .u8 0) 1 Try.underlying35 info_u8 rfl (by decide) wr.heap.size rfl hown1 rfl hr5 (ub_one _) ?_ ?_ ?_)
              case _ => omega
              case _ => simp
              case _ =>
                intro v' w4 hown4 hg4 _
                have hb4 := hba.grown hg4 hba.size (fun k hk => (hown1.lt k hk).1)
                change w4.ownsRow wr.heap.size 5 1 v' (1 + r.length) (ub (82 :: r)) at hown4
                obtain ⟨B, c, rfl, hc, hrd⟩ := own_rd hown4
                clear hown1 hown4 hg4 hr5 hrr hcell hba
                go_wp2_with fail
                refine (fput_calls none B 0 0 (1 + r.length) c [] (82 :: r) w4 (Rd.none_ _ _) hrd hc (by decide) (by omega)).mono ?_
                rintro e w5 ⟨⟨u, q5, rfl, hq5, hown5⟩, hb5⟩
                rw [List.nil_append] at hown5
                have Hq5 : Hid (q5 = r.length + 9) := Lib.hid (by omega)
                clear hq5
                have hb5' := below_then hb4 hb5
                have hownb5 := own_below hownb hb5'
                obtain ⟨B5, c5, rfl, hc5, hrd5⟩ := own_rd hown5
                have hbel5 := below_then hbel hb5'
                clear hown5 hb4 hb5 hb5' hownb hrd hbel
                go_wp2_with (at_builtin; refine wpList_app rfl _ _ _ rfl 5 (.int .u8 0) 1 Try.underlying35 info_u8 rfl (by decide) w.heap.size rfl hownb5 rfl hrd5 (ub_one _) ?_ ?_ ?_)
                case _ => have := Hq5.out; omega
                case _ => exact hbel5.size
                case _ =>
                  intro v6 w6 hown6 hg6 _
                  rw [← ub_append, show enc (82 :: r) = recR r from rfl, ← Hnx.out] at hown6
                  have hb6 := hbel5.grown hg6 hbel5.size (fun k hk => (hownb5.lt k hk).1)
                  have Hq6 : Hid (q + q5 = (body G (l.take (j + 1))).length) := Lib.hid (by rw [Hnx.out, List.length_append, recR_length, ← Hq.out, Hq5.out])
                  clear hg6 hownb5 hrd5 hbel5 Hnx Hq5
                  go_wp2_with fail
                  go_roundw
                  case rel => exact ⟨j + 1, q + q5, by omega, by go_num, Hq6, hown6, hb6⟩
                  case measure => simp [intOf]; omega
            · obtain rfl : j = k := by omega
              rw [List.take_of_length_le (by rw [Hlen.out]; omega)] at hownb Hq
              have hown1 := own_one wr (base := wr.heap.size) (Nat.le_refl _) (.int .u8 69) 5
              have hba := (Below.refl wr.heap.size wr).alloc (Nat.le_refl _) (.cells #[.int .u8 69] 5)
              have hrE : Rd (wr.alloc (.cells #[.int .u8 69] 5)) (some ⟨wr.heap.size, 0, none⟩) 1 (ub [69]) := rd_one wr _ 5
              obtain ⟨B, c, rfl, hc, hrd⟩ := own_rd (own_below hownb hba)
              have hbelE := below_then hbel hba
              clear hownb hown1 hba hbel
              go_wp2_with fail
              generalize wr.alloc (.cells #[.int .u8 69] 5) = W4 at *
              refine (fput_calls B (some ⟨wr.heap.size, 0, none⟩) q c 1 1 (body G l) [69] W4 hrd hrE (by decide) (by omega) (by decide)).mono ?_
              rintro e w5 ⟨⟨u, q5, rfl, hq5, hown5⟩, hb5⟩
              have hbel5 := below_then hbelE hb5
              obtain ⟨B5, c5, rfl, hc5, hrd5⟩ := own_rd hown5
              change Rd w5 B5 q5 (ub (fileOf G l)) at hrd5
              have Hq5 : Hid (q5 = (fileOf G l).length) := Lib.hid hrd5.len.symm
              have hq5b : q5 ≤ 134217738 := by omega
              have h5 := (hbel5.block p (heap_lt Hh.out)).trans Hh.out
              have hD5 := HD.out.move hbel5
              have hX5 : ∀ k, w5.heap.size ≤ k → X k := fun k hk => hX2 k (Nat.le_trans hbel5.size hk)
              have ho5 := OnlyS.of_below (S := P3 d b p) hbel5
              have HbE := Lib.hid hbelE
              clear hrd hrE hb5 hbelE hq5 hbel5
              -- the three steps
              have hBlk : ∀ ad, B5 = some ad → w.heap.size ≤ ad.block ∧ ad.block < w5.heap.size := fun ad e => by
                subst e
                have := hown5.lt _ rfl
                exact ⟨Nat.le_trans HbE.out.size this.1, this.2⟩
              have hlt0 := HD.out.lt
              have hltp := heap_lt Hh.out
              have hDp : ∀ (U U' : World) (V' : Int → Value) (D' : DS), DiskAt X U d b sw V' D' → OnlyD p p U U' → DiskAt X U' d b sw V' D' := fun U U' V' D' hU hO => hU.frame hO.size (fun k hk hh => by
                have hkp : k ≠ p := by
                  rcases hh with hh | hh | hh
                  · subst hh; exact hp.1.symm
                  · subst hh; exact hp.2.symm
                  · exact hX k hh
                exact hO.block k hk hkp hkp)
              have hrdS : ∀ U, OnlyS (P3 d b p) w5 U → Rd U B5 q5 (ub (fileOf G l)) := fun U hO => hrd5.at_block (fun ad e => hO.block _ (hBlk ad e).2 (fun hh => by have := (hBlk ad e).1; rcases hh with hh | hh | hh <;> omega))
              have hW0 : W.fails 0 = W := by simp [WS.fails]
              have HW1 : Hid (∀ E : Int, E ≠ 0 → W.fails E = { W with done := true }) := Lib.hid (fun E hE => by simp [WS.fails, hE])
              have hoP := OnlyS.refl (P3 d b p) w5
              obtain ⟨c0, c1, c2, c3, c4, c5', c6, cf⟩ := wal_cell h5
              have hcase : (W.f = 0 ∧ otherF W.f = 1) ∨ (W.f ≠ 0 ∧ otherF W.f = 0) := by
                unfold otherF
                by_cases h0 : W.f = 0
                · exact .inl ⟨h0, if_pos h0⟩
                · exact .inr ⟨h0, if_neg h0⟩
              clear hown5 HbE hrd5
              rcases hcase with ⟨hf0, hof⟩ | ⟨hf0, hof⟩
              · obtain ⟨C1, E1, hC⟩ : ∃ C1 E1, D.clearR 1 = (C1, E1) := ⟨_, _, rfl⟩
                have hstC : C1.steps ≤ D.steps + 1 := by have := clearR_steps D 1; rw [hC] at this; exact this
                have hne0 : (W.f == 0) = true := by rw [beq_iff_eq]; exact hf0
                have HofC := Lib.hid hof
                have HC := Lib.hid hC
                have hcl := clearR_calls (X := X) 1 hD5 (by omega)
                rw [hC] at hcl
                clear hof hC hD5 hf0
                go_wp2_with fail
                refine hcl.mono ?_
                rintro e w6 ⟨rfl, ⟨V6, hD6⟩, ho6⟩
                have hD6 : DiskAt X w6 d b sw V6 C1 := hD6
                have h6 := (ho6.block p (heap_lt h5) hp.1 hp.2).trans h5
                have ho6' := hoP.trans (OnlyS.of_d ho6 (.inl rfl) (.inr (.inl rfl)))
                clear hcl h5 c0 c1 c2 c3 c4 c5' c6 cf ho6 hoP
                simp only
                go_wp2_with fail
                refine (wfails_calls p d W E1 w6 h6).mono ?_
                rintro e w7 ⟨rfl, h7, ho7⟩
                have hD7 := hDp _ _ _ _ hD6 ho7
                have ho7' := ho6'.trans (OnlyS.of_d ho7 (.inr (.inr rfl)) (.inr (.inr rfl)))
                clear hD6 h6 ho6' ho7
                by_cases hE1 : E1 = 0
                · subst hE1
                  rw [hW0] at h7
                  obtain ⟨c0, c1, c2, c3, c4, c5', c6, cf⟩ := wal_cell h7
                  obtain ⟨A1, E2, hA⟩ : ∃ A1 E2, C1.appR 1 (fileOf G l) = (A1, E2) := ⟨_, _, rfl⟩
                  have hstA : A1.steps ≤ C1.steps + 1 := by have := appR_steps C1 1 (fileOf G l); rw [hA] at this; exact this
                  have hX7 : ∀ k, w7.heap.size ≤ k → X k := fun k hk => hX5 k (Nat.le_trans ho7'.size hk)
                  have hap := appR_calls (X := X) (cap := c5) 1 hD7 (hrdS _ ho7') (by omega) hX7 (by omega)
                  rw [hA] at hap
                  have HA := Lib.hid hA
                  clear hA hD7
                  go_wp2_with fail
                  refine hap.mono ?_
                  rintro e w8 ⟨rfl, ⟨V8, hD8⟩, ho8⟩
                  have hD8 : DiskAt X w8 d b sw V8 A1 := hD8
                  have h8 := (ho8.block p (heap_lt h7) hp.1 hp.2).trans h7
                  have ho8' := ho7'.trans (OnlyS.of_d ho8 (.inl rfl) (.inr (.inl rfl)))
                  clear hap h7 c0 c1 c2 c3 c4 c5' c6 cf ho8 ho7' hX7
                  simp only
                  go_wp2_with fail
                  refine (wfails_calls p d W E2 w8 h8).mono ?_
                  rintro e w9 ⟨rfl, h9, ho9⟩
                  have hD9 := hDp _ _ _ _ hD8 ho9
                  have ho9' := ho8'.trans (OnlyS.of_d ho9 (.inr (.inr rfl)) (.inr (.inr rfl)))
                  clear hD8 h8 ho8' ho9
                  by_cases hE2 : E2 = 0
                  · subst hE2
                    rw [hW0] at h9
                    obtain ⟨c0, c1, c2, c3, c4, c5', c6, cf⟩ := wal_cell h9
                    obtain ⟨S1, E3, hS⟩ : ∃ S1 E3, A1.syncR 1 = (S1, E3) := ⟨_, _, rfl⟩
                    have hsy := syncR_calls (X := X) 1 hD9 (by omega)
                    rw [hS] at hsy
                    have HS := Lib.hid hS
                    clear hS hD9
                    go_wp2_with fail
                    refine hsy.mono ?_
                    rintro e w10 ⟨rfl, ⟨V10, hD10⟩, ho10⟩
                    have hD10 : DiskAt X w10 d b sw V10 S1 := hD10
                    have h10 := (ho10.block p (heap_lt h9) hp.1 hp.2).trans h9
                    have ho10' := ho9'.trans (OnlyS.of_d ho10 (.inl rfl) (.inr (.inl rfl)))
                    clear hsy h9 c0 c1 c2 c3 c4 c5' c6 cf ho10 ho9'
                    simp only
                    go_wp2_with fail
                    refine (wfails_calls p d W E3 w10 h10).mono ?_
                    rintro e w11 ⟨rfl, h11, ho11⟩
                    have hD11 := hDp _ _ _ _ hD10 ho11
                    have ho11' := ho10'.trans (OnlyS.of_d ho11 (.inr (.inr rfl)) (.inr (.inr rfl)))
                    clear hD10 h10 ho10' ho11
                    by_cases hE3 : E3 = 0
                    · subst hE3
                      rw [hW0] at h11
                      obtain ⟨c0, c1, c2, c3, c4, c5', c6, cf⟩ := wal_cell h11
                      have hx9 : ((((w11.setCell ⟨p, 3, none⟩ (.int .i64 1)).setCell ⟨p, 4, none⟩ (.int .u64 ((W.gen : Int) + 1))).setCell ⟨p, 5, none⟩ (.int .i64 (j : Int))).setCell ⟨p, 6, none⟩ (.int .i64 (q5 : Int))).heap[p]? = some (walCells d { W with f := otherF W.f, gen := W.gen + 1, recs := l, bytes := (fileOf (W.gen + 1) l).length }) := by
                        rw [set_row (set_row (set_row (set_row h11 _ _) _ _) _ _)]
                        have e1 : (((W.gen + 1 : Nat)) : Int) = (W.gen : Int) + 1 := by omega
                        have e2 : (fileOf (W.gen + 1) l).length = q5 := by rw [HG.out]; exact Hq5.out.symm
                        simp only [walCells, e1, e2, Hlen.out, HofC.out]
                        rfl
                      have ho12 := ((((OnlyD.refl p p w11).setCell 3 (.int .i64 1)).setCell 4 (.int .u64 ((W.gen : Int) + 1))).setCell 5 (.int .i64 (j : Int))).setCell 6 (.int .i64 (q5 : Int))
                      have hD12 := hDp _ _ _ _ hD11 ho12
                      have Hfin : Hid (WPost X w p d b sw (wRew D W l) (.returned (.int .i64 0)) ((((w11.setCell ⟨p, 3, none⟩ (.int .i64 1)).setCell ⟨p, 4, none⟩ (.int .u64 ((W.gen : Int) + 1))).setCell ⟨p, 5, none⟩ (.int .i64 (j : Int))).setCell ⟨p, 6, none⟩ (.int .i64 (q5 : Int)))) := Lib.hid (by
                        rw [wRew_ok Hpre.out (C := (C1, 0)) (A := (A1, 0)) (S := (S1, 0)) (by rw [HofC.out]; exact HC.out) rfl (by rw [HofC.out, HG.out]; exact HA.out) rfl (by rw [HofC.out]; exact HS.out) rfl]
                        exact ⟨rfl, ⟨V10, hD12⟩, hx9, (ho5.trans ho11').trans (OnlyS.of_d ho12 (.inr (.inr rfl)) (.inr (.inr rfl)))⟩)
                      have hgb : (W.gen : Int) ≤ 4611686018427387904 := by have := HG.out; have := HG62.out; omega
                      clear h11 hD11 ho11' hx9 ho12 hD12 ho5
                      go_wp2_with fail
                      go_ret
                      exact Hfin.out
                    · have hne : (E3 != 0) = true := by rw [bne_iff_ne]; exact hE3
                      rw [HW1.out _ hE3] at h11
                      have Hfin : Hid (WPost X w p d b sw (wRew D W l) (.returned (.int .i64 E3)) w11) := Lib.hid (by
                        rw [wRew_sync Hpre.out (C := (C1, 0)) (A := (A1, 0)) (S := (S1, E3)) (by rw [HofC.out]; exact HC.out) rfl (by rw [HofC.out, HG.out]; exact HA.out) rfl (by rw [HofC.out]; exact HS.out) hE3]
                        exact ⟨rfl, ⟨V10, hD11⟩, h11, ho5.trans ho11'⟩)
                      clear h11 hD11 ho11' hE3 ho5
                      go_wp2_with fail
                      go_ret
                      exact Hfin.out
                  · have hne : (E2 != 0) = true := by rw [bne_iff_ne]; exact hE2
                    rw [HW1.out _ hE2] at h9
                    have Hfin : Hid (WPost X w p d b sw (wRew D W l) (.returned (.int .i64 E2)) w9) := Lib.hid (by
                      rw [wRew_app Hpre.out (C := (C1, 0)) (A := (A1, E2)) (by rw [HofC.out]; exact HC.out) rfl (by rw [HofC.out, HG.out]; exact HA.out) hE2]
                      exact ⟨rfl, ⟨V8, hD9⟩, h9, ho5.trans ho9'⟩)
                    clear h9 hD9 ho9' hE2 ho5
                    go_wp2_with fail
                    go_ret
                    exact Hfin.out
                · have hne : (E1 != 0) = true := by rw [bne_iff_ne]; exact hE1
                  rw [HW1.out _ hE1] at h7
                  have Hfin : Hid (WPost X w p d b sw (wRew D W l) (.returned (.int .i64 E1)) w7) := Lib.hid (by
                    rw [wRew_clear Hpre.out (C := (C1, E1)) (by rw [HofC.out]; exact HC.out) hE1]
                    exact ⟨rfl, ⟨V6, hD7⟩, h7, ho5.trans ho7'⟩)
                  clear h7 hD7 ho7' hE1 ho5
                  go_wp2_with fail
                  go_ret
                  exact Hfin.out
              · obtain ⟨C1, E1, hC⟩ : ∃ C1 E1, D.clearR 0 = (C1, E1) := ⟨_, _, rfl⟩
                have hstC : C1.steps ≤ D.steps + 1 := by have := clearR_steps D 0; rw [hC] at this; exact this
                have hne0 : (W.f == 0) = false := by rw [beq_eq_false_iff_ne]; exact hf0
                have HofC := Lib.hid hof
                have HC := Lib.hid hC
                have hcl := clearR_calls (X := X) 0 hD5 (by omega)
                rw [hC] at hcl
                clear hof hC hD5 hf0
                go_wp2_with fail
                refine hcl.mono ?_
                rintro e w6 ⟨rfl, ⟨V6, hD6⟩, ho6⟩
                have hD6 : DiskAt X w6 d b sw V6 C1 := hD6
                have h6 := (ho6.block p (heap_lt h5) hp.1 hp.2).trans h5
                have ho6' := hoP.trans (OnlyS.of_d ho6 (.inl rfl) (.inr (.inl rfl)))
                clear hcl h5 c0 c1 c2 c3 c4 c5' c6 cf ho6 hoP
                simp only
                go_wp2_with fail
                refine (wfails_calls p d W E1 w6 h6).mono ?_
                rintro e w7 ⟨rfl, h7, ho7⟩
                have hD7 := hDp _ _ _ _ hD6 ho7
                have ho7' := ho6'.trans (OnlyS.of_d ho7 (.inr (.inr rfl)) (.inr (.inr rfl)))
                clear hD6 h6 ho6' ho7
                by_cases hE1 : E1 = 0
                · subst hE1
                  rw [hW0] at h7
                  obtain ⟨c0, c1, c2, c3, c4, c5', c6, cf⟩ := wal_cell h7
                  obtain ⟨A1, E2, hA⟩ : ∃ A1 E2, C1.appR 0 (fileOf G l) = (A1, E2) := ⟨_, _, rfl⟩
                  have hstA : A1.steps ≤ C1.steps + 1 := by have := appR_steps C1 0 (fileOf G l); rw [hA] at this; exact this
                  have hX7 : ∀ k, w7.heap.size ≤ k → X k := fun k hk => hX5 k (Nat.le_trans ho7'.size hk)
                  have hap := appR_calls (X := X) (cap := c5) 0 hD7 (hrdS _ ho7') (by omega) hX7 (by omega)
                  rw [hA] at hap
                  have HA := Lib.hid hA
                  clear hA hD7
                  go_wp2_with fail
                  refine hap.mono ?_
                  rintro e w8 ⟨rfl, ⟨V8, hD8⟩, ho8⟩
                  have hD8 : DiskAt X w8 d b sw V8 A1 := hD8
                  have h8 := (ho8.block p (heap_lt h7) hp.1 hp.2).trans h7
                  have ho8' := ho7'.trans (OnlyS.of_d ho8 (.inl rfl) (.inr (.inl rfl)))
                  clear hap h7 c0 c1 c2 c3 c4 c5' c6 cf ho8 ho7' hX7
                  simp only
                  go_wp2_with fail
                  refine (wfails_calls p d W E2 w8 h8).mono ?_
                  rintro e w9 ⟨rfl, h9, ho9⟩
                  have hD9 := hDp _ _ _ _ hD8 ho9
                  have ho9' := ho8'.trans (OnlyS.of_d ho9 (.inr (.inr rfl)) (.inr (.inr rfl)))
                  clear hD8 h8 ho8' ho9
                  by_cases hE2 : E2 = 0
                  · subst hE2
                    rw [hW0] at h9
                    obtain ⟨c0, c1, c2, c3, c4, c5', c6, cf⟩ := wal_cell h9
                    obtain ⟨S1, E3, hS⟩ : ∃ S1 E3, A1.syncR 0 = (S1, E3) := ⟨_, _, rfl⟩
                    have hsy := syncR_calls (X := X) 0 hD9 (by omega)
                    rw [hS] at hsy
                    have HS := Lib.hid hS
                    clear hS hD9
                    go_wp2_with fail
                    refine hsy.mono ?_
                    rintro e w10 ⟨rfl, ⟨V10, hD10⟩, ho10⟩
                    have hD10 : DiskAt X w10 d b sw V10 S1 := hD10
                    have h10 := (ho10.block p (heap_lt h9) hp.1 hp.2).trans h9
                    have ho10' := ho9'.trans (OnlyS.of_d ho10 (.inl rfl) (.inr (.inl rfl)))
                    clear hsy h9 c0 c1 c2 c3 c4 c5' c6 cf ho10 ho9'
                    simp only
                    go_wp2_with fail
                    refine (wfails_calls p d W E3 w10 h10).mono ?_
                    rintro e w11 ⟨rfl, h11, ho11⟩
                    have hD11 := hDp _ _ _ _ hD10 ho11
                    have ho11' := ho10'.trans (OnlyS.of_d ho11 (.inr (.inr rfl)) (.inr (.inr rfl)))
                    clear hD10 h10 ho10' ho11
                    by_cases hE3 : E3 = 0
                    · subst hE3
                      rw [hW0] at h11
                      obtain ⟨c0, c1, c2, c3, c4, c5', c6, cf⟩ := wal_cell h11
                      have hx9 : ((((w11.setCell ⟨p, 3, none⟩ (.int .i64 0)).setCell ⟨p, 4, none⟩ (.int .u64 ((W.gen : Int) + 1))).setCell ⟨p, 5, none⟩ (.int .i64 (j : Int))).setCell ⟨p, 6, none⟩ (.int .i64 (q5 : Int))).heap[p]? = some (walCells d { W with f := otherF W.f, gen := W.gen + 1, recs := l, bytes := (fileOf (W.gen + 1) l).length }) := by
                        rw [set_row (set_row (set_row (set_row h11 _ _) _ _) _ _)]
                        have e1 : (((W.gen + 1 : Nat)) : Int) = (W.gen : Int) + 1 := by omega
                        have e2 : (fileOf (W.gen + 1) l).length = q5 := by rw [HG.out]; exact Hq5.out.symm
                        simp only [walCells, e1, e2, Hlen.out, HofC.out]
                        rfl
                      have ho12 := ((((OnlyD.refl p p w11).setCell 3 (.int .i64 0)).setCell 4 (.int .u64 ((W.gen : Int) + 1))).setCell 5 (.int .i64 (j : Int))).setCell 6 (.int .i64 (q5 : Int))
                      have hD12 := hDp _ _ _ _ hD11 ho12
                      have Hfin : Hid (WPost X w p d b sw (wRew D W l) (.returned (.int .i64 0)) ((((w11.setCell ⟨p, 3, none⟩ (.int .i64 0)).setCell ⟨p, 4, none⟩ (.int .u64 ((W.gen : Int) + 1))).setCell ⟨p, 5, none⟩ (.int .i64 (j : Int))).setCell ⟨p, 6, none⟩ (.int .i64 (q5 : Int)))) := Lib.hid (by
                        rw [wRew_ok Hpre.out (C := (C1, 0)) (A := (A1, 0)) (S := (S1, 0)) (by rw [HofC.out]; exact HC.out) rfl (by rw [HofC.out, HG.out]; exact HA.out) rfl (by rw [HofC.out]; exact HS.out) rfl]
                        exact ⟨rfl, ⟨V10, hD12⟩, hx9, (ho5.trans ho11').trans (OnlyS.of_d ho12 (.inr (.inr rfl)) (.inr (.inr rfl)))⟩)
                      have hgb : (W.gen : Int) ≤ 4611686018427387904 := by have := HG.out; have := HG62.out; omega
                      clear h11 hD11 ho11' hx9 ho12 hD12 ho5
                      go_wp2_with fail
                      go_ret
                      exact Hfin.out
                    · have hne : (E3 != 0) = true := by rw [bne_iff_ne]; exact hE3
                      rw [HW1.out _ hE3] at h11
                      have Hfin : Hid (WPost X w p d b sw (wRew D W l) (.returned (.int .i64 E3)) w11) := Lib.hid (by
                        rw [wRew_sync Hpre.out (C := (C1, 0)) (A := (A1, 0)) (S := (S1, E3)) (by rw [HofC.out]; exact HC.out) rfl (by rw [HofC.out, HG.out]; exact HA.out) rfl (by rw [HofC.out]; exact HS.out) hE3]
                        exact ⟨rfl, ⟨V10, hD11⟩, h11, ho5.trans ho11'⟩)
                      clear h11 hD11 ho11' hE3 ho5
                      go_wp2_with fail
                      go_ret
                      exact Hfin.out
                  · have hne : (E2 != 0) = true := by rw [bne_iff_ne]; exact hE2
                    rw [HW1.out _ hE2] at h9
                    have Hfin : Hid (WPost X w p d b sw (wRew D W l) (.returned (.int .i64 E2)) w9) := Lib.hid (by
                      rw [wRew_app Hpre.out (C := (C1, 0)) (A := (A1, E2)) (by rw [HofC.out]; exact HC.out) rfl (by rw [HofC.out, HG.out]; exact HA.out) hE2]
                      exact ⟨rfl, ⟨V8, hD9⟩, h9, ho5.trans ho9'⟩)
                    clear h9 hD9 ho9' hE2 ho5
                    go_wp2_with fail
                    go_ret
                    exact Hfin.out
                · have hne : (E1 != 0) = true := by rw [bne_iff_ne]; exact hE1
                  rw [HW1.out _ hE1] at h7
                  have Hfin : Hid (WPost X w p d b sw (wRew D W l) (.returned (.int .i64 E1)) w7) := Lib.hid (by
                    rw [wRew_clear Hpre.out (C := (C1, E1)) (by rw [HofC.out]; exact HC.out) hE1]
                    exact ⟨rfl, ⟨V6, hD7⟩, h7, ho5.trans ho7'⟩)
                  clear h7 hD7 ho7' hE1 ho5
                  go_wp2_with fail
                  go_ret
                  exact Hfin.out
end Go.Proofs.Ythcajaadbdiggaa
