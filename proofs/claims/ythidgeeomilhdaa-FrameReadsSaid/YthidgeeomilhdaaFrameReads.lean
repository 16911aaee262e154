/- The walk of the law FrameReads. -/
import Derived.Test.YthidgeeomilhdaaFrameLaws
import Derived.Test.YthidgeeomilhdaaRef3
import Derived.Test.YthidgeeomilhdaaScanMath
namespace Go.Proofs.Ythidgeeomilhdaa
open Go.RowKit

/-- the place of an own list -/
theorem OwnL.row {w : World} {base : Nat} {G : Nat → Nat} {cs : List Value} {ls : List (List UInt8)} (h : OwnL w base G cs ls) {j : Nat} (hj : j < ls.length) :
    base ≤ G j ∧ ∃ c, cs[j]? = some (.slice (some ⟨G j, 0, none⟩) (ls[j]).length c) ∧ w.ownsRow base 5 1 (.slice (some ⟨G j, 0, none⟩) (ls[j]).length c) (ls[j]).length (ub ls[j]) :=
  h.2.2 j _ (List.getElem?_eq_getElem hj)
/-- what is left of an own list from k on -/
def OwnFrom (w : World) (base : Nat) (G : Nat → Nat) (cs : List Value) (ls : List (List UInt8)) (k : Nat) : Prop :=
  cs.length = ls.length ∧ (∀ i j, i < j → j < ls.length → G i < G j) ∧ ∀ j l, k ≤ j → ls[j]? = some l → base ≤ G j ∧ ∃ c, cs[j]? = some (.slice (some ⟨G j, 0, none⟩) l.length c) ∧ w.ownsRow base 5 1 (.slice (some ⟨G j, 0, none⟩) l.length c) l.length (ub l)
theorem OwnL.from0 {w : World} {base : Nat} {G : Nat → Nat} {cs : List Value} {ls : List (List UInt8)} (h : OwnL w base G cs ls) : OwnFrom w base G cs ls 0 :=
  ⟨h.1, h.2.1, fun j l _ hl => h.2.2 j l hl⟩
theorem OwnFrom.next {w w' : World} {base : Nat} {G : Nat → Nat} {cs : List Value} {ls : List (List UInt8)} {k : Nat} (h : OwnFrom w base G cs ls k) (hk : k < ls.length)
    (ho : OnlyBlk (some (G k)) w w') : OwnFrom w' base G cs ls (k + 1) := by
  refine ⟨h.1, h.2.1, fun j l hj hl => ?_⟩
  obtain ⟨h1, c, h2, h3⟩ := h.2.2 j l (by omega) hl
  refine ⟨h1, c, h2, own_move h3 (fun g hg => ho.block g (fun e => ?_))⟩
  injection hg with hg
  injection e with e
  have := h.2.1 k j (by omega) (List.getElem?_eq_some_iff.1 hl).1
  simp at hg
  omega
theorem OwnFrom.move {w w' : World} {base : Nat} {G : Nat → Nat} {cs : List Value} {ls : List (List UInt8)} {k : Nat} (h : OwnFrom w base G cs ls k) (hm : ∀ g, base ≤ g → g < w.heap.size → w'.heap[g]? = w.heap[g]?) : OwnFrom w' base G cs ls k :=
  ⟨h.1, h.2.1, fun j l hj hl => by
    obtain ⟨h1, c, h2, h3⟩ := h.2.2 j l hj hl
    exact ⟨h1, c, h2, own_move h3 (fun g hg => hm g (h3.lt g hg).1 (h3.lt g hg).2)⟩⟩
theorem OwnL.only {w w' : World} {base g : Nat} {G : Nat → Nat} {cs : List Value} {ls : List (List UInt8)} (h : OwnL w base G cs ls) (ho : OnlyBlk (some g) w w') (hg : g < base) : OwnL w' base G cs ls :=
  ⟨h.1, h.2.1, fun j l hl => by
    obtain ⟨h1, c, h2, h3⟩ := h.2.2 j l hl
    exact ⟨h1, c, h2, own_move h3 (fun k hk => ho.block k (fun e => by have := (h3.lt k hk).1; injection e with e; omega))⟩⟩
theorem own_only {w w' : World} {base g n size : Nat} {t : TypeId} {v : Value} {cs : List Value} (h : w.ownsRow base t size v n cs) (ho : OnlyBlk (some g) w w') (hg : some g ≠ v.ownBlock) : w'.ownsRow base t size v n cs :=
  own_move h (fun k hk => ho.block k (fun e => hg (by rw [hk, e])))
theorem own_cell {w : World} {base g n c : Nat} {t : TypeId} {l : List Value} (h : w.ownsRow base t 1 (.slice (some ⟨g, 0, none⟩) n c) n l) : ∃ cur, w.heap[g]? = some (.cells cur t (0, 0)) := by
  rcases h.2 with ⟨h, _⟩ | ⟨g', cap, cur, h1, _, h2, _⟩
  · cases h
  · injection h1 with h1 _ _
    injection h1 with h1
    injection h1 with h1 _ _
    subst h1
    exact ⟨cur, h2⟩
theorem own_rd' {w : World} {base n c : Nat} {B : Option Addr} {e : TypeId} {xs : List Value} (h : w.ownsRow base e 1 (.slice B n c) n xs) : n ≤ c ∧ Rd w B n xs := by
  obtain ⟨A, c', he, hc, hr⟩ := own_rd h
  injection he with e1 e2 e3
  subst e1; subst e3
  exact ⟨hc, hr⟩

set_option maxRecDepth 10000 in
set_option maxHeartbeats 4000000 in
theorem framereads_walk (w : World) (A : Option Addr) (m cap : Nat) (xs : List UInt8) (hx : Rd w A m (ub xs)) (hm : m ≤ 140737488355328) (hc : m ≤ cap) (a : Int) (ha1 : -9223372036854775808 ≤ a) (ha2 : a ≤ 9223372036854775807) :
    Calls Try.prog 4 #[.slice A m cap, .int .i64 a] w fun e w' => e = .returned (.bool true) ∧ Below w.heap.size w w' := by
  go_enter Try.func4, Try.ntmps4
  go_wp2_with fail
  refine (begun_calls _).mono ?_
  rintro e w1 ⟨rfl, hb1⟩
  have hx1 := hx.below hb1
  have hx0 := hx
  clear hx
  by_cases h1 : m ≤ 16384
  · obtain rfl := hx1.len
    go_wp2_with fail
    refine (twin_calls A cap xs _ hx1 (by omega)).mono ?_
    rintro e w2 ⟨⟨g, rfl, hg, hT⟩, hb2⟩
    have hx2 := hx1.below hb2
    have hbel := below_then hb1 hb2
    have hg0 : w.heap.size ≤ g := Nat.le_trans hb1.size hg
    clear hb1 hb2 hx1 hg
    go_wp2_with fail
    go_loopw [6] (fun t wr => ∃ q : Nat, q ≤ 2 ∧ t = .int .i64 q ∧ Rd wr A xs.length (ub xs) ∧ Hid (wr.heap[g]? = some (.cells (twinCells xs).toArray 5 (0, 0))) ∧ Below w.heap.size w wr) (fun t _ => 2 - (intOf t).toNat)
    case atStart => exact ⟨0, by decide, rfl, hx2, hT, hbel⟩
    case round =>
      clear hx2 hT hbel
      obtain ⟨q, hq, rfl, hx3, HT, hbel⟩ := hrel
      by_cases hq2 : q < 2
      · have hT3 := HT.out
        have hbel2 := hbel.size
        have hgT2 := heap_lt hT3
        clear HT
        go_wp2_with fail
        refine (fnext_all (some ⟨g, 0, none⟩) xs.length (xs.length + 3) xs a _ (twin_rd hT3) (by omega) (by omega)).mono ?_
        rintro e w3 ⟨⟨v1, k1, rfl, hk1, ho1⟩, hb3⟩
        have hx4 := hx3.below hb3
        have hT4 := (hb3.block g (heap_lt hT3)).trans hT3
        have hle3 := hbel.size
        have hbel := below_then hbel hb3
        clear hx3 hT3 hb3
        go_wp2_with fail
        refine (ref3next_all A xs.length cap xs a _ hx4 hc (by omega)).mono ?_
        rintro e w4 ⟨⟨v2, k2, rfl, hk2, ho2⟩, hb4⟩
        have hx5 := hx4.below hb4
        have hT5 := (hb4.block g (heap_lt hT4)).trans hT4
        have ho1b := own_below ho1 hb4
        have hbel := below_then hbel hb4
        have hbel4 := hbel.size
        clear hx4 hT4 hb4 ho1
        go_wp2_with fail
        refine (fscan_calls (some ⟨g, 0, none⟩) xs.length (xs.length + 3) xs _ (twin_rd hT5) (by omega) (by omega)).mono ?_
        rintro e w5 ⟨⟨B, n, c, G, cs, rfl, hn, hnc, hoB, hol⟩, hb5⟩
        have hx6 := hx5.below hb5
        have hgT := heap_lt hT5
        have hT6 := (hb5.block g hgT).trans hT5
        have ho1c := own_below ho1b hb5
        have ho2c := own_below ho2 hb5
        have hr1lt : ∀ k, v1.ownBlock = some k → k < w4.heap.size := fun k hk => (ho1b.lt k hk).2
        have hle5 := hbel.size
        have hbel := below_then hbel hb5
        clear hx5 hT5 ho1b ho2
        have hb5s := hb5.size
        clear hb5
        go_wp2_with fail
        refine (ref3scan_calls A xs.length cap xs _ hx6 hc (by omega)).mono ?_
        rintro e w6 ⟨⟨D, n2, d, G2, cs2, rfl, hn2, hnd, hoD, hol2⟩, hb6⟩
        obtain rfl : n2 = n := by omega
        clear hn2
        have hnb : n2 ≤ 16384 := by have := scan_bound xs; omega
        have hx7 := hx6.below hb6
        have hT7 := (hb6.block g (heap_lt hT6)).trans hT6
        have ho1d := own_below ho1c hb6
        have ho2d := own_below ho2c hb6
        have hoB2 := own_below hoB hb6
        have hol3 := hol.below hb6
        have hGlt : ∀ j, j < (scanOf xs).1.length → G j < w5.heap.size := fun j hj => hol.lt hj
        have hle6 := hbel.size
        have hbel := below_then hbel hb6
        clear hx6 hT6 ho1c ho2c hoB hol
        have hb6s := hb6.size
        clear hb6
        obtain ⟨E1, e1, rfl, _, hE1⟩ := own_rd ho1d
        obtain ⟨E2, e2, rfl, _, hE2⟩ := own_rd ho2d
        have hs1 := run_str (P := Try.prog) (dst := 9) Try.underlying22 Try.underlying5 Try.underlying9 hE1 e1
        have hs2 := run_str (P := Try.prog) (dst := 9) Try.underlying22 Try.underlying5 Try.underlying9 hE2 e2
        clear hE1 hE2 ho2d hk1 hk2
        generalize hN : nextAll xs a = N at *
        clear hN
        generalize hS : txt N.1 = S at *
        clear hS
        generalize hNN : N.1 = NN at *
        clear hNN
        generalize N.2.1 = N1 at *
        generalize N.2.2 = N2 at *
        generalize hsc : (scanOf xs).1 = ls at *
        generalize (scanOf xs).2 = good at *
        clear hsc
        have Hhol := Lib.hid hol3.from0
        clear hol3
        go_wp2_with fail
        refine (kept_calls g A cap xs _ hT7 hx7 (by omega)).mono ?_
        rintro e w7 ⟨rfl, rfl⟩
        have hgT6 : g < w4.heap.size := hgT
        clear hs1 hs2
        go_wp2_with fail
        go_loopw [17] (fun t wr => ∃ k : Nat, k ≤ n2 ∧ t = .int .i64 k ∧ Hid (OwnFrom wr w4.heap.size G cs ls k) ∧ wr.ownsRow w4.heap.size 22 1 (.slice B n2 c) n2 cs ∧ wr.ownsRow w5.heap.size 22 1 (.slice D n2 d) n2 cs2 ∧ OwnL wr w5.heap.size G2 cs2 ls ∧ Below w4.heap.size w6 wr) (fun t _ => n2 - (intOf t).toNat)
        case atStart => exact ⟨0, Nat.zero_le _, rfl, Hhol.out, hoB2, hoD, hol2, Below.refl _ _⟩
        case round =>
          clear hoB2 hoD hol2 Hhol
          obtain ⟨k, hk, rfl, Hol, hoB, hoD, hol2, hb7⟩ := hrel
          by_cases hkn : k < n2
          · obtain ⟨had, hrB⟩ := own_rd' hoB
            obtain ⟨_, hrD⟩ := own_rd' hoD
            have hkl : k < ls.length := by omega
            obtain ⟨ad1, u1, rfl, hu1, hc1⟩ := hrB.at_ hkn
            obtain ⟨ad2, u2, rfl, hu2, hc2⟩ := hrD.at_ hkn
            obtain ⟨hG1, d1, hcs1, hro1⟩ := Hol.out.2.2 k _ (Nat.le_refl _) (List.getElem?_eq_getElem hkl)
            obtain ⟨_, d2, hcs2, hro2⟩ := hol2.row hkl
            rw [hcs1] at hu1
            rw [hcs2] at hu2
            injection hu1 with hu1
            injection hu2 with hu2
            subst hu1 hu2
            have hs1 := fun N : Nat => run_str (P := Try.prog) (dst := 9) Try.underlying22 Try.underlying5 Try.underlying9 ((own_rd' hro1).2.below (below_drewN (Below.refl _ _) N)) d1
            have hs2 := fun N : Nat => run_str (P := Try.prog) (dst := 9) Try.underlying22 Try.underlying5 Try.underlying9 ((own_rd' hro2).2.below (below_drewN (Below.refl _ _) N)) d2
            obtain ⟨cur, hcur⟩ := own_cell hro1
            have hGk := hGlt k hkl
            have Hne1 := Lib.hid (own_ne_blk hoB hcur (by decide))
            have Hne2 := Lib.hid (own_ne_blk hoD hcur (by decide))
            generalize hls : ls[k] = l at *
            have Hro1 := Lib.hid hro1
            clear hcs1 hcs2 hro1 hro2 hcur hrB hrD hGlt
            generalize hS2 : txt l = S2 at *
            clear hS2
            go_wp2_with fail
            go_quiet (fail)
            go_wp2_with fail
            refine (spoil_calls _ (own_below Hro1.out (below_drewN (Below.refl _ _) nq))).mono ?_
            rintro e w8 ⟨rfl, ho0⟩
            have ho : OnlyBlk (some (G k)) wr w8 := ⟨ho0.os, ho0.tape, ho0.output, ho0.size, ho0.block⟩
            clear ho0
            have hol4 := Hol.out.next hkl ho
            have hoB4 := own_only hoB ho Hne1.out
            have hoD4 := own_only hoD ho Hne2.out
            have hol5 := hol2.only ho hGk
            have hb8 := hb7.trans (ho.below (fun j hj => by injection hj with hj; subst hj; exact hG1))
            clear hoB hoD hol2 ho Hro1
            go_wp2_with fail
            go_roundw
            case rel => exact ⟨k + 1, hkn, by go_num, hol4, hoB4, hoD4, hol5, hb8⟩
            case measure => simp [intOf]; omega
          · obtain rfl : k = n2 := by omega
            have hro := own_move ho1d (fun j hj => hb7.block j (hr1lt j hj))
            have hT8 := (hb7.block g hgT6).trans hT7
            have hx8 := hx0.below (hbel.trans (hb7.mono hbel4))
            have hbelx := hbel.trans (hb7.mono hbel4)
            clear hoB hoD hol2 Hol
            go_wp2_with fail
            refine (spoil_calls _ hro).mono ?_
            rintro e w8 ⟨rfl, ho⟩
            have hb9 := ho.below (fun j hj => (hro.lt j hj).1)
            have hT9 := Lib.hid ((hb9.block g hgT2).trans hT8)
            have hbel9 := hbelx.trans (hb9.mono hbel2)
            have hx9 := hx0.below hbel9
            clear ho hb9 hT8 hro hT7 ho1d
            clear hn hnd hnc hk hkn hr1lt hGlt
            go_wp2_with fail
            go_roundw
            case rel => exact ⟨q + 1, by omega, by go_num, hx9, hT9.out, hbel9⟩
            case measure => simp only [intOf]; omega
      · obtain rfl : q = 2 := by omega
        go_wp2_with fail
        go_ret
        exact ⟨rfl, hbel⟩
  · go_wp2_with fail
    go_ret
    exact ⟨rfl, hb1⟩
end Go.Proofs.Ythidgeeomilhdaa
