/- The struct of a log and the document's: do, kind 2 (printed by gendo5.py). -/
import Derived.Test.YthcajaadbdiggaaWalMid
import Derived.Deep.RegionHeld3
namespace Go.Proofs.Ythcajaadbdiggaa
set_option maxRecDepth 1000000
open Go.RowKit

theorem spoil5_row (g n c : Nat) (cur : Array Value) (w : World) (hg : w.heap[g]? = some (.cells cur 5 (0, 0))) (hs : cur.size = c) (hn : n ≤ c) (hc : c ≤ maxLen) :
    Calls Try.prog 40 #[.slice (some ⟨g, 0, none⟩) n c] w fun e w' => e = .returned (.tuple #[]) ∧ OnlyBlk (some g) w w' ∧ ∃ cur', w'.heap[g]? = some (.cells cur' 5 (0, 0)) ∧ cur'.size = c := by
  unfold maxLen at hc
  go_enter Try.func40, Try.ntmps40
  go_wp2_with fail
  go_loopw [3] (fun i wr => ∃ (m : Nat) (cur : Array Value), m ≤ c ∧ i = .int .i64 m ∧ Hid (wr.heap[g]? = some (.cells cur 5 (0, 0))) ∧ Hid (cur.size = c) ∧ OnlyBlk (some g) w wr) (fun i _ => c - (intOf i).toNat)
  case atStart => exact ⟨0, cur, Nat.zero_le _, rfl, hg, hs, OnlyBlk.refl _ _⟩
  case round =>
    obtain ⟨m, cur2, hm, rfl, Hb, Hs, ho⟩ := hrel
    by_cases hlt : m < c
    · have hcell : wr.cell? ⟨g, m, none⟩ = some (cur2[m]'(by have := Hs.out; omega)) := by rw [cell_row Hb.out]; exact Array.getElem?_eq_getElem _
      have hfree := free_row Hb.out m
      have Hb2 := Lib.hid (set_row Hb.out m (.int .u8 90))
      have ho2 := ho.set g m (.int .u8 90) rfl
      generalize cur2[m]'_ = u at hcell
      go_wp2_with fail
      go_roundw
      case rel => exact ⟨m + 1, _, by omega, by go_num, Hb2.out, by rw [Array.size_setIfInBounds]; exact Hs.out, ho2⟩
      case measure => simp [intOf]; omega
    · obtain rfl : m = c := by omega
      go_wp2_with fail
      go_end0
      exact ⟨rfl, ho, cur2, Hb.out, Hs.out⟩
set_option maxHeartbeats 400000 in
theorem twins5_calls (A : Option Addr) (n cap : Nat) (ls : List (List UInt8)) (w : World) (hr : RdL w A n ls) (hn : n ≤ 1073741824) (hm : ∀ l ∈ ls, l.length ≤ 1073741824) :
    Calls Try.prog 42 #[.slice A n cap] w fun e w' => (∃ B c cs, e = .returned (.slice B n c) ∧ w'.ownsRow w.heap.size 35 1 (.slice B n c) n cs ∧ TwL w' w.heap.size cs ls) ∧ Below w.heap.size w w' := by
  go_enter Try.func42, Try.ntmps42
  go_wp2_with fail
  go_loopw [3, 4] (fun s i wr => ∃ (k : Nat) (cs : List Value), k ≤ n ∧ i = .int .i64 k ∧ wr.ownsRow w.heap.size 35 1 s k cs ∧ TwL wr w.heap.size cs (ls.take k) ∧ Below w.heap.size w wr) (fun _ i _ => n - (intOf i).toNat)
  case atStart => exact ⟨0, [], Nat.zero_le _, rfl, World.ownsRow_nil _ _ _ _, TwL.nil_ _ _, Below.refl _ _⟩
  case round =>
    obtain ⟨k, cs, hk, rfl, hown, htw, hbel⟩ := hrel
    by_cases hlt : k < n
    · obtain ⟨ad, l, B, c, rfl, hl, hcell, _, hrl⟩ := (hr.below hbel).at_ hlt
      have hml := hm l (List.mem_of_getElem? hl)
      have Hs := Lib.hid (take_snoc' hl)
      clear hl
      go_wp2_with fail
      refine (twin_calls _ _ l _ hrl hml).mono ?_
      rintro e w1 ⟨⟨g, rfl, hg, hblk⟩, hb1⟩
      have hown1 := own_below hown hb1
      have hown2 := hown1.alloc (.cells #[.slice (some ⟨g, 0, none⟩) l.length (l.length + 3)] 35)
      have hr1 := rd_one w1 (.slice (some ⟨g, 0, none⟩) l.length (l.length + 3)) 35
      have hbel1 := below_then hbel hb1
      have hbel2 := hbel1.alloc hbel1.size (.cells #[.slice (some ⟨g, 0, none⟩) l.length (l.length + 3)] 35)
      have hsz := hbel1.size
      have htw1 := (htw.below hb1).snoc (Nat.le_trans hbel.size hg) hblk
      rw [← Hs.out] at htw1
      clear hown hown1 hrl hcell hblk hb1 htw
      go_wp2_with (at_builtin; refine wpList_app rfl _ _ _ rfl 35 (.slice none 0 0) 24 Try.underlying36 info_sl rfl (by decide) w.heap.size rfl hown2 rfl hr1 (one_one rfl) ?_ ?_ ?_)
      case _ => omega
      case _ => simp; omega
      case _ =>
        intro v' w2 hown3 hg2 _
        have hb3 := hbel2.grown hg2 hbel2.size (fun k hk => (own_base hown2 k hk))
        have htw2 := htw1.move (w' := w2) (fun g c _ hgc => (hg2.block g (heap_lt (alloc_old hgc)) (own_ne_blk hown2 (alloc_old hgc) (by decide))).trans (alloc_old hgc))
        clear hown2 htw1 hg2 hr1
        go_wp2
        go_roundw
        case rel => exact ⟨k + 1, _, by omega, by go_num, hown3, htw2, hb3⟩
        case measure => simp [intOf]; omega
    · obtain rfl : k = n := by omega
      rw [List.take_of_length_le (by have := hr.len; omega)] at htw
      obtain ⟨B, c, e, -, -⟩ := own_rd hown
      subst e
      go_wp2_with fail
      go_ret
      exact ⟨⟨B, c, cs, rfl, hown, htw⟩, hbel⟩
/-- twins, spoilt one after the other -/
structure SpAt (base : Nat) (w : World) (q d b r p x n1 n2 : Nat) (v : Value) (D : DS) (W : WS) (Bt : Option Addr) (n ct : Nat) (cs : List Value) (ls : List (List UInt8)) (wr : World) : Prop where
  cells : wr.heap[q]? = some (bothCells d r (.pointer (some ⟨p, 0, none⟩)) (.pointer (some ⟨x, 0, none⟩)))
  ref : RefAt wr r D
  wal : wr.heap[p]? = some (walCells d W)
  log : RWal wr x r base W v
  disk : ∃ V, DiskAt (fun k => FreeL q r p x v k ∧ (k < n1 ∨ n2 ≤ k)) wr d b false V D
  own : wr.ownsRow n1 35 1 (.slice Bt n ct) n cs
  rows : ∀ (j : Nat) (l : List UInt8), ls[j]? = some l → ∃ (g : Nat) (cur : Array Value), cs[j]? = some (.slice (some ⟨g, 0, none⟩) l.length (l.length + 3)) ∧ n1 ≤ g ∧ g < n2 ∧ wr.heap[g]? = some (.cells cur 5 (0, 0)) ∧ cur.size = l.length + 3
  below : Below base w wr
theorem SpAt.spoil {base : Nat} {w : World} {q d b r p x n1 n2 : Nat} {v : Value} {D : DS} {W : WS} {Bt : Option Addr} {n ct : Nat} {cs : List Value} {ls : List (List UInt8)} {wr w' : World} (h : SpAt base w q d b r p x n1 n2 v D W Bt n ct cs ls wr) {g c : Nat} {cur cur' : Array Value}
    (hn : q < n1 ∧ d < n1 ∧ b < n1 ∧ r < n1 ∧ p < n1 ∧ x < n1 ∧ base ≤ n1) (hg : n1 ≤ g ∧ g < n2) (h1 : wr.heap[g]? = some (.cells cur 5 (0, 0))) (h2 : cur.size = c) (ho : OnlyBlk (some g) wr w') (h3 : w'.heap[g]? = some (.cells cur' 5 (0, 0))) (h4 : cur'.size = c) :
    SpAt base w q d b r p x n1 n2 v D W Bt n ct cs ls w' := by
  have hfr : ∀ k, k ≠ g → w'.heap[k]? = wr.heap[k]? := fun k hk => ho.block k (fun e => hk (by injection e))
  have n6 := own_ne_blk h.log.own h1 (by decide)
  have n7 := own_ne_blk h.own h1 (by decide)
  refine ⟨(hfr q (by omega)).trans h.cells, h.ref.move (hfr r (by omega)), (hfr p (by omega)).trans h.wal, ⟨(hfr x (by omega)).trans h.log.cells, own_at h.log.own (fun k hk e => hfr k (fun ek => n6 (by rw [← ek]; exact e.symm)))⟩, ?_, own_at h.own (fun k hk e => hfr k (fun ek => n7 (by rw [← ek]; exact e.symm))), fun j l hl => ?_, h.below.trans (ho.below (fun k hk => by injection hk with hk; omega))⟩
  · obtain ⟨V, hV⟩ := h.disk
    exact ⟨V, hV.frame (Nat.le_of_eq ho.size.symm) (fun k hk hh => hfr k (by rcases hh with hh | hh | hh <;> omega))⟩
  · obtain ⟨g2, cur2, e1, e2, e3, e4, e5⟩ := h.rows j l hl
    by_cases hgg : g2 = g
    · subst hgg
      rw [h1] at e4
      injection e4 with e4
      injection e4 with e4
      subst e4
      exact ⟨g2, cur', e1, e2, e3, h3, by omega⟩
    · exact ⟨g2, cur2, e1, e2, e3, (hfr g2 hgg).trans e4, e5⟩
theorem SpAt.drew {base : Nat} {w : World} {q d b r p x n1 n2 : Nat} {v : Value} {D : DS} {W : WS} {Bt : Option Addr} {n ct : Nat} {cs : List Value} {ls : List (List UInt8)} {wr : World} (h : SpAt base w q d b r p x n1 n2 v D W Bt n ct cs ls wr) (N : Nat) : SpAt base w q d b r p x n1 n2 v D W Bt n ct cs ls (wr.drewN N) :=
  ⟨h.cells, h.ref.move rfl, h.wal, h.log.below (below_drewN (Below.refl _ _) N), by obtain ⟨V, hV⟩ := h.disk; exact ⟨V, hV.move (below_drewN (Below.refl _ _) N)⟩, h.own, h.rows, below_drewN h.below N⟩

set_option maxHeartbeats 8000000 in
theorem bdo_rew (base q d b r : Nat) (D : DS) (WL : WS) (P Q : Value) (k5 : Nat) (op : Op5) (B : Option Addr) (cb : Nat) (C : Option Addr) (cl : Nat) (K : Option Addr) (ck : Nat) (w : World) (h : BothAt base w q d b r D (some WL) P Q) (hI : Inv5 D (some WL) k5) (hk5 : k5 ≤ 60) (hok : op.Ok) (hlo : Light1 op) (hA : OpRd base w op B cb C cl K ck) (hk : op.kind % 7 = 2) :
    Calls Try.prog 14 #[.pointer (some ⟨q, 0, none⟩), .agg (opV5 op B cb C cl K ck)] w fun e w' => DoPost base w q d b r k5 e w' := by
  have hpl := fun W => place_calls op.kind 7 W (by decide) (by decide) hok.kind.1 hok.kind.2
  go_enter Try.func14, Try.ntmps14
  go_wp2_with fail
  have hba := (Below.refl w.heap.size w).alloc (Nat.le_refl _) (.cells (opV5 op B cb C cl K ck) 39)
  have x0 := alloc_new w (.cells (opV5 op B cb C cl K ck) 39) _ rfl
  have hM := h.mid.below hba
  have hbel : Below base w (w.alloc (.cells (opV5 op B cb C cl K ck) 39)) := hba.mono h.low.2.2.2.2
  have hst := hI.steps
  have hlv := hI.lives
  have hG : base ≤ w.heap.size := h.low.2.2.2.2
  have HBW : Hid (base ≤ w.heap.size) := Lib.hid h.low.2.2.2.2
  change Calls _ _ _ (w.alloc (.cells (opV5 op B cb C cl K ck) 39)) _
  clear h hba
  generalize w.alloc (.cells (opV5 op B cb C cl K ck) 39) = W at *
  obtain ⟨G, hGe⟩ : ∃ G, w.heap.size = G := ⟨_, rfl⟩
  rw [hGe] at x0 hG ⊢
  clear hGe
  refine (hpl W).mono ?_
  rw [show op.kind % ((7 : Nat) : Int) = 2 from hk]
  rintro e W' ⟨rfl, rfl⟩
  obtain ⟨p, x, v, rfl, rfl, hp, hx, hbp, hbx, V, hD⟩ := hM.logs
  have hqd : q ≠ d ∧ q ≠ b := ⟨cells_ne hM.cells hD.cells (by decide), map_ne hM.cells hD.map⟩
  have hqr : q ≠ r := cells_ne hM.cells hM.ref.cells (by decide)
  have hqp : q ≠ p := cells_ne hM.cells hp (by decide)
  have hqx : q ≠ x := cells_ne hM.cells hx.cells (by decide)
  have hrd : r ≠ d ∧ r ≠ b := ⟨cells_ne hM.ref.cells hD.cells (by decide), map_ne hM.ref.cells hD.map⟩
  have hrp : r ≠ p := cells_ne hM.ref.cells hp (by decide)
  have hpd : p ≠ d ∧ p ≠ b := ⟨cells_ne hp hD.cells (by decide), map_ne hp hD.map⟩
  have hpx : p ≠ x := cells_ne hp hx.cells (by decide)
  have hxd : x ≠ d ∧ x ≠ b := ⟨cells_ne hx.cells hD.cells (by decide), map_ne hx.cells hD.map⟩
  have hdx : (d ≠ r ∧ b ≠ r) ∧ d ≠ x ∧ b ≠ x := ⟨⟨hrd.1.symm, hrd.2.symm⟩, hxd.1.symm, hxd.2.symm⟩
  have hGd : G ≠ d ∧ G ≠ b := ⟨cells_ne x0 hD.cells (by decide), map_ne x0 hD.map⟩
  have hGr : G ≠ r := cells_ne x0 hM.ref.cells (by decide)
  have hGp : G ≠ p := cells_ne x0 hp (by decide)
  have hGx : G ≠ x := cells_ne x0 hx.cells (by decide)
  have hI1 := hI.log _ rfl
  have hlq := heap_lt hM.cells
  have hlr := heap_lt hM.ref.cells
  have hlp := heap_lt hp
  have hlx := heap_lt hx.cells
  have hlG := heap_lt x0
  have hbR := hI1.recs
  have hbB := hI1.bytes
  have hbg := hI1.gen
  have hbf := hI1.file
  have hlow := hM.low
  have hq := hM.cells
  have hR := hM.ref
  have q3 : W.cell? ⟨q, 3, none⟩ = some (.pointer (some ⟨x, 0, none⟩)) := by rw [cell_row hq]; rfl
  have p0 : W.cell? ⟨G, 0, none⟩ = some (.int .i64 op.kind) := by rw [cell_row x0]; rfl
  have p3 : W.cell? ⟨G, 3, none⟩ = some (.slice B op.b.length cb) := by rw [cell_row x0]; rfl
  have p4 : W.cell? ⟨G, 4, none⟩ = some (.slice C op.l.length cl) := by rw [cell_row x0]; rfl
  have hpl2 := place_calls op.kind 7 W (by decide) (by decide) hok.kind.1 hok.kind.2
  rw [show op.kind % ((7 : Nat) : Int) = 2 from hk] at hpl2
  clear hM hpl
  have hl2 := hlo.2.1
  have hl3 := hlo.2.2.1
  obtain ⟨-, -, hrC, hcC, -⟩ := hA W hbel
  have hml : ∀ l ∈ op.l, l.length ≤ 1073741824 := fun l hl => by
    obtain ⟨j, hj⟩ := List.mem_iff_getElem?.1 hl
    have := one_le_flat hj
    omega
  have htw := twins5_calls C op.l.length cl op.l W hrC (by omega) hml
  clear hrC p3
  go_wp2_with fail
  refine hpl2.mono ?_
  rintro e W'' ⟨rfl, rfl⟩
  clear hpl2
  go_wp2_with fail
  refine htw.mono ?_
  rintro e w2 ⟨⟨Bt, ct, cs, rfl, hO, hT⟩, hb2⟩
  clear htw q3 p0 p4
  have hdb := hD.lt
  obtain ⟨n1, hn1⟩ : ∃ n1, W.heap.size = n1 := ⟨_, rfl⟩
  obtain ⟨n2, hn2⟩ : ∃ n2, w2.heap.size = n2 := ⟨_, rfl⟩
  have hD2 := (hD.imp (Y := fun k => FreeL q r p x v k ∧ (k < n1 ∨ n2 ≤ k)) (fun k hk h => ⟨h, .inl (by omega)⟩)).move hb2
  have hb3 := hb2.drew
  have hD3 := hD2.move (Below.refl _ _).drew
  have hx3 := hx.below hb3
  have hR3 : RefAt w2.drew r D := hR.move (hb3.block r hlr)
  have hp3 : w2.drew.heap[p]? = some (walCells d WL) := (hb3.block p hlp).trans hp
  have hq3 := (hb3.block q hlq).trans hq
  have hG3 := (hb3.block G hlG).trans x0
  have hT3 : TwL w2.drew W.heap.size cs op.l := hT.below (Below.refl _ _).drew
  have hO3 : w2.drew.ownsRow W.heap.size 35 1 (.slice Bt op.l.length ct) op.l.length cs := hO
  have hgs : ∀ (j : Nat) (l : List UInt8), op.l[j]? = some l → ∃ g : Nat, cs[j]? = some (.slice (some ⟨g, 0, none⟩) l.length (l.length + 3)) ∧ n1 ≤ g ∧ g < n2 := fun j l hl => by
    obtain ⟨g, h1, h2, h3⟩ := hT.2 j l hl
    exact ⟨g, h1, by omega, by have := heap_lt h3; omega⟩
  have Hgs := Lib.hid hgs
  have hbel3 := hbel.trans (hb3.mono hlow.2.2.2.2)
  have hsz3 : W.heap.size ≤ w2.drew.heap.size := hb3.size
  have hn2' : n2 ≤ w2.drew.heap.size := by rw [← hn2]; exact Nat.le_refl _
  have hs := wrew_steps D WL op.l
  have hI9 := fun hok => hI1.rew (l := op.l) (by omega) hok
  have hwal := fun U (hp' : U.heap[p]? = some (walCells d WL)) (hD' : DiskAt (fun k => FreeL q r p x v k ∧ (k < n1 ∨ n2 ≤ k)) U d b false V D) hX hT' => wrew_calls p d b false V D WL Bt op.l.length ct op.l U hp' hD' hpd (fun k h => h.1.2.2.1) hX (by omega) hT' (by omega) (by omega) hbg hbf
  have href := fun At ca U (hx' : RWal U x r base WL v) (hR' : RefAt U r D) htx hb => rew5_calls x r base D WL v At op.l.length ca op.l U hx' hR' (by omega) htx (by omega) (by omega) hbg hb
  obtain ⟨R, hRe⟩ : ∃ R, wRew D WL op.l = R := ⟨_, rfl⟩
  rw [hRe] at hs hI9
  simp only [hRe] at hwal href
  have hee : (R.2.2 == R.2.2) = true := by simp
  have Hn1 := Lib.hid hn1
  have hn1b : W.heap.size ≤ n1 ∧ n1 ≤ W.heap.size := by omega
  clear hD hD2 hb2 hb3 hp hx hR hq x0 hT hO hRe hgs hn2 hn1
  go_wp2_with fail
  go_region_held3 (fun U => U.cell? ⟨q, 2, none⟩ = some (.pointer (some ⟨p, 0, none⟩)) ∧ U.cell? ⟨q, 3, none⟩ = some (.pointer (some ⟨x, 0, none⟩)) ∧ U.cell? ⟨G, 4, none⟩ = some (.slice C op.l.length cl))
    (exact ⟨by rw [cell_row hq3]; rfl, by rw [cell_row hq3]; rfl, by rw [cell_row hG3]; rfl⟩)
    (first
      | (go_at_call 20
         refine (hwal _ hp3 hD3 (fun k hk => ⟨⟨by omega, by omega, by omega, by omega, fun e => by have := (hx3.own.lt k e.symm).2; omega⟩, .inr (Nat.le_trans hn2' hk)⟩) (hT3.rdl (by obtain ⟨A1, c1, e1, -, h1⟩ := own_rd hO3; injection e1 with e1 _ _; subst e1; exact h1))).mono ?_
         rintro e w' ⟨rfl, ⟨V', hD'⟩, hp', ho'⟩
         have nn1 := hx3.ne hD3.cells (by decide)
         have nn2 := own_ne_map hx3.own hD3.map
         have nn3 := hx3.ne hp3 (by decide)
         replace hx3 := hx3.move ho' (fun e => e.elim hxd.1 (fun e => e.elim hxd.2 hpx.symm)) (fun k hk e => e.elim (fun e => nn1 (by rw [← e]; exact hk.symm)) (fun e => e.elim (fun e => nn2 (by rw [← e]; exact hk.symm)) (fun e => nn3 (by rw [← e]; exact hk.symm))))
         replace hq3 := (ho'.block q (heap_lt hq3) (fun e => e.elim hqd.1 (fun e => e.elim hqd.2 hqp))).trans hq3
         replace hR3 := hR3.move (ho'.block r (heap_lt hR3.cells) (fun e => e.elim hrd.1 (fun e => e.elim hrd.2 hrp)))
         replace hG3 := (ho'.block G (heap_lt hG3) (fun e => e.elim hGd.1 (fun e => e.elim hGd.2 hGp))).trans hG3
         replace hT3 := hT3.move (fun g c _ hc => (ho'.block g (heap_lt hc) (fun e => e.elim (cells_ne hc hD3.cells (by decide)) (fun e => e.elim (map_ne hc hD3.map) (cells_ne hc hp3 (by decide))))).trans hc)
         have nn8 := own_ne_blk hO3 hD3.cells (by decide)
         have nn9 := own_ne_map hO3 hD3.map
         have nn10 := own_ne_blk hO3 hp3 (by decide)
         replace hO3 := own_at hO3 (fun k hk ek => ho'.block k hk (fun e => e.elim (fun e => nn8 (by rw [← e]; exact ek.symm)) (fun e => e.elim (fun e => nn9 (by rw [← e]; exact ek.symm)) (fun e => nn10 (by rw [← e]; exact ek.symm)))))
         replace hbel3 := hbel3.trans (ho'.below (base := base) (fun k hk => by rcases hk with rfl | rfl | rfl <;> omega) (Nat.le_trans hlow.2.2.2.2 hsz3))
         replace hsz3 := Nat.le_trans hsz3 ho'.size
         clear hD3 hp3
         have hD3 := hD'
         have hp3 := hp')
      | (go_at_call 29
         refine (texts_calls C op.l.length cl op.l _ (hA _ hbel3).2.2.1 (by omega)).mono ?_
         rintro e wt ⟨⟨v2, rfl, howt⟩, hbt⟩
         obtain ⟨At, ca, e2, -, hrt⟩ := own_rd howt
         subst e2
         have htx : TextsAt wt (fun k => k = r ∨ k = x) At op.l.length op.l := ⟨hrt, fun ad e => by
           subst e
           have := howt.lt _ rfl
           exact ⟨fun e => e.elim (fun e => by omega) (fun e => by omega), this.2⟩⟩
         replace hq3 := (hbt.block q (heap_lt hq3)).trans hq3
         replace hR3 := hR3.move (hbt.block r (heap_lt hR3.cells))
         replace hp3 := (hbt.block p (heap_lt hp3)).trans hp3
         replace hx3 := hx3.below hbt
         replace hG3 := (hbt.block G (heap_lt hG3)).trans hG3
         replace hD3 := hD3.move hbt
         replace hT3 := hT3.below hbt
         replace hO3 := own_below hO3 hbt
         replace hbel3 := hbel3.trans (hbt.mono (Nat.le_trans hlow.2.2.2.2 hsz3))
         replace hsz3 := Nat.le_trans hsz3 hbt.size
         clear howt hrt)
      | (go_at_call 43
         refine (href At ca _ hx3 hR3 htx (Nat.le_trans hlow.2.2.2.2 hsz3)).mono ?_
         rintro e w9 ⟨rfl, hR', ⟨v', hx', hv'⟩, ho'⟩
         have nn1 := hx3.ne hq3 (by decide)
         have nn2 := hx3.ne hp3 (by decide)
         have nn3 := hx3.ne hG3 (by decide)
         have nn4 := hx3.ne hD3.cells (by decide)
         have nn5 := own_ne_map hx3.own hD3.map
         replace hq3 := (ho'.block q (heap_lt hq3) (fun e => e.elim hqr (fun e => e.elim hqx nn1))).trans hq3
         replace hp3 := (ho'.block p (heap_lt hp3) (fun e => e.elim hrp.symm (fun e => e.elim hpx nn2))).trans hp3
         replace hG3 := (ho'.block G (heap_lt hG3) (fun e => e.elim hGr (fun e => e.elim hGx nn3))).trans hG3
         replace hT3 := hT3.move (fun g c _ hc => (ho'.block g (heap_lt hc) (fun e => e.elim (cells_ne hc hR3.cells (by decide)) (fun e => e.elim (cells_ne hc hx3.cells (by decide)) (hx3.ne hc (by decide))))).trans hc)
         have nn8 := own_ne_blk hO3 hR3.cells (by decide)
         have nn9 := own_ne_blk hO3 hx3.cells (by decide)
         replace hO3 := own_at hO3 (fun k hk ek => ho'.block k hk (fun e => e.elim (fun e => nn8 (by rw [← e]; exact ek.symm)) (fun e => e.elim (fun e => nn9 (by rw [← e]; exact ek.symm)) (fun e => by
           obtain ⟨c1, hc1⟩ := own_blk5 hx3.own e.symm
           exact own_ne_blk hO3 hc1 (by decide) ek.symm))))
         replace hbel3 := hbel3.trans (ho'.below (base := base) (fun k hk => by
           rcases hk with rfl | rfl | hk
           · omega
           · omega
           · exact (hx3.own.lt k hk.symm).1) (Nat.le_trans hlow.2.2.2.2 hsz3))
         have hD4 := hD3.over (Y := fun k => FreeL q r p x v' k ∧ (k < n1 ∨ n2 ≤ k)) ho'.size (fun k hk hh => ho'.block k hk (fun e => hh.elim (fun h => by subst h; exact e.elim hdx.1.1 (fun e => e.elim hdx.2.1 nn4)) (fun h => h.elim (fun h => by subst h; exact e.elim hdx.1.2 (fun e => e.elim hdx.2.2 nn5)) (fun h => e.elim h.1.2.1 (fun e => e.elim h.1.2.2.2.1 h.1.2.2.2.2))))) (fun k hk hh => ⟨⟨hh.1.1, hh.1.2.1, hh.1.2.2.1, hh.1.2.2.2.1, fun e => (hv' k e.symm).elim hh.1.2.2.2.2 (fun h => absurd hk (Nat.not_lt.2 h))⟩, hh.2⟩)
         replace hsz3 := Nat.le_trans hsz3 ho'.size
         clear hD3 hx3 hR3
         have hD3 := hD4
         have hx3 := hx'
         have hR3 := hR')
      | (go_at_call 44
         refine (allkept_calls Bt C op.l.length ct cl W.heap.size cs op.l _ (by obtain ⟨A1, c1, e1, -, h1⟩ := own_rd hO3; injection e1 with e1 _ _; subst e1; exact h1) hT3 (hA _ hbel3).2.2.1 (by omega) hml).mono ?_
         rintro e wk ⟨rfl, mk, rfl⟩
         have hbk := below_drewN (Below.refl w9.heap.size w9) mk
         replace hq3 := (hbk.block q (heap_lt hq3)).trans hq3
         replace hR3 := hR3.move (hbk.block r (heap_lt hR3.cells))
         replace hp3 := (hbk.block p (heap_lt hp3)).trans hp3
         replace hx3 := hx3.below hbk
         replace hG3 := (hbk.block G (heap_lt hG3)).trans hG3
         replace hD3 := hD3.move hbk
         replace hT3 := hT3.below hbk
         replace hO3 := own_below hO3 hbk
         replace hbel3 := hbel3.trans (hbk.mono (Nat.le_trans hlow.2.2.2.2 hsz3))
         replace hsz3 := Nat.le_trans hsz3 hbk.size
         clear hbk))
  all_goals
    have HSp : Hid (SpAt base w q d b r p x n1 n2 v' R.1 R.2.1 Bt op.l.length ct cs op.l (w9.drewN mk)) := Lib.hid ⟨hq3, hR3, hp3, hx3, ⟨V', hD3⟩, by rw [← Hn1.out]; exact hO3, fun j l hl => by
      obtain ⟨g, k1, -, k3⟩ := hT3.2 j l hl
      obtain ⟨g', j1, j2, j3⟩ := Hgs.out j l hl
      rw [k1] at j1
      injection j1 with j1
      injection j1 with j1
      injection j1 with j1
      injection j1 with j1
      subst j1
      exact ⟨g, _, k1, j2, j3, k3, by simp [twinCells, ub_length]⟩, hbel3⟩
    have HI9 : Hid (Inv5 R.1 (some R.2.1) (k5 + 1)) := Lib.hid ⟨by omega, by omega, fun W hW => by injection hW with hW; subst hW; exact hI9 hR3.ok⟩
    have hnb : q < n1 ∧ d < n1 ∧ b < n1 ∧ r < n1 ∧ p < n1 ∧ x < n1 ∧ base ≤ n1 := by have := hlow.2.2.2.2; omega
    have Hlow := Lib.hid (And.intro hlow (And.intro hbp hbx))
    have hl2 := hlo.2.1
    have hl3 := hlo.2.2.1
    clear hq3 hR3 hp3 hx3 hD3 hO3 hT3 hG3 hbel3 hI9 hI hA hwal href htx hs hsz3 hn1b hn2' hml
    generalize w9.drewN mk = wz at *
    go_wp2_with fail
    go_loopw [10] (fun i wr => ∃ j : Nat, j ≤ op.l.length ∧ i = .int .i64 j ∧ Hid (SpAt base w q d b r p x n1 n2 v' R.1 R.2.1 Bt op.l.length ct cs op.l wr)) (fun i _ => op.l.length - (intOf i).toNat)
    case atStart => exact ⟨0, Nat.zero_le _, rfl, HSp⟩
    case round =>
      clear HSp
      obtain ⟨j, hj, rfl, HS⟩ := hrel
      by_cases hlt : j < op.l.length
      · obtain ⟨l, hl⟩ : ∃ l, op.l[j]? = some l := ⟨_, List.getElem?_eq_getElem hlt⟩
        obtain ⟨g, cur, e1, e2, e3, e4, e5⟩ := HS.out.rows j l hl
        have hlf := one_le_flat hl
        obtain ⟨A1, c1, ee, -, hrd⟩ := own_rd HS.out.own
        injection ee with ee1 ee2 ee3
        subst ee1
        obtain ⟨ad, rfl, hcs⟩ := hrd.2 (by omega)
        have hcell := hcs j _ e1
        have hj0 : (0 : Int) ≤ j := by omega
        have hj1 : (j : Int) < op.l.length := by omega
        have hsp := spoil5_row g l.length (l.length + 3) cur wr e4 e5 (by omega) (by unfold maxLen; omega)
        have Hsp := Lib.hid (fun (w' : World) (cur' : Array Value) (ho : OnlyBlk (some g) wr w') (k1 : w'.heap[g]? = some (.cells cur' 5 (0, 0))) (k2 : cur'.size = l.length + 3) => HS.out.spoil hnb ⟨e2, e3⟩ e4 e5 ho k1 k2)
        clear hl e1 e2 e3 e4 e5 hrd hcs ee2 ee3
        go_wp2_with fail
        refine hsp.mono ?_
        rintro e w11 ⟨rfl, ho11, cur', k1, k2⟩
        have HS2 := Lib.hid (Hsp.out w11 cur' ho11 k1 k2)
        clear hsp ho11 k1 k2 Hsp
        go_wp2_with fail
        go_roundw
        case rel => exact ⟨j + 1, by omega, by go_num, HS2⟩
        case measure => simp [intOf]; omega
      · obtain rfl : j = op.l.length := by omega
        have Hfin : Hid (DoPost base w q d b r k5 (.returned (.bool true)) wr) := Lib.hid (by
          obtain ⟨s1, s2, s3, s4, ⟨V9, s5⟩, s6, s7, s8⟩ := HS.out
          obtain ⟨⟨l1, l2, l3, l4, l5⟩, l6, l7⟩ := Hlow.out
          exact ⟨rfl, ⟨R.1, some R.2.1, .pointer (some ⟨p, 0, none⟩), .pointer (some ⟨x, 0, none⟩), ⟨s1, s2, ⟨p, x, v', rfl, rfl, s3, s4, l6, l7, V9, s5.imp (fun k _ h => h.1)⟩, l1, l2, l3, l4, Nat.le_trans HBW.out s8.size⟩, HI9.out⟩, s8⟩)
        go_wp2_with fail
        go_ret
        exact Hfin.out
end Go.Proofs.Ythcajaadbdiggaa
