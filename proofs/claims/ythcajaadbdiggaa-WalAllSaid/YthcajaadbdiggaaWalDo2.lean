/- The struct of a log and the document's: do without a log, kinds 0 and 1 (printed by gendo5.py). -/
import Derived.Test.YthcajaadbdiggaaWalMid
import Derived.Deep.RegionHeld3
namespace Go.Proofs.Ythcajaadbdiggaa
set_option maxRecDepth 1000000
open Go.RowKit

set_option maxHeartbeats 8000000 in
theorem bdo_none (base q d b r : Nat) (D : DS)  (P Q : Value) (k5 : Nat) (op : Op5) (B : Option Addr) (cb : Nat) (C : Option Addr) (cl : Nat) (K : Option Addr) (ck : Nat) (w : World) (h : BothAt base w q d b r D (none) P Q) (hI : Inv5 D (none) k5) (hk5 : k5 ≤ 60) (hok : op.Ok) (hlo : Light1 op) (hA : OpRd base w op B cb C cl K ck) (hk : op.kind % 7 = 0 ∨ op.kind % 7 = 1 ∨ op.kind % 7 = 2) :
    Calls Try.prog 14 #[.pointer (some ⟨q, 0, none⟩), .agg (opV5 op B cb C cl K ck)] w fun e w' => DoPost base w q d b r k5 e w' := by
  have hpl := fun W => place_calls op.kind 7 W (by decide) (by decide) hok.kind.1 hok.kind.2
  go_enter Try.func14, Try.ntmps14
  go_wp2_with fail
  have hba := (Below.refl w.heap.size w).alloc (Nat.le_refl _) (.cells (opV5 op B cb C cl K ck) 39)
  have x0 := alloc_new w (.cells (opV5 op B cb C cl K ck) 39) _ rfl
  have hM := h.mid.below hba
  have hbel : Below base w (w.alloc (.cells (opV5 op B cb C cl K ck) 39)) := hba.mono h.low.2.2.2.2
  have hst := hI.steps
  have hlv := hI.lives
  have hG : base ≤ w.heap.size := h.low.2.2.2.2
  have HBW : Hid (base ≤ w.heap.size) := Lib.hid h.low.2.2.2.2
  change Calls _ _ _ (w.alloc (.cells (opV5 op B cb C cl K ck) 39)) _
  clear h hba
  generalize w.alloc (.cells (opV5 op B cb C cl K ck) 39) = W at *
  obtain ⟨G, hGe⟩ : ∃ G, w.heap.size = G := ⟨_, rfl⟩
  rw [hGe] at x0 hG ⊢
  clear hGe
  refine (hpl W).mono ?_
  have hkd2 : (op.kind % ((7 : Nat) : Int) == 3) = false ∧ (op.kind % ((7 : Nat) : Int) == 4) = false ∧ (op.kind % ((7 : Nat) : Int) == 5) = false ∧ (op.kind % ((7 : Nat) : Int) == 6) = false := by
    rcases hk with hk | hk | hk <;> (rw [show op.kind % ((7 : Nat) : Int) = _ from hk]; decide)
  obtain ⟨k3, k4, k5', k6⟩ := hkd2
  generalize op.kind % ((7 : Nat) : Int) = kd at *
  rintro e W' ⟨rfl, rfl⟩
  obtain ⟨hP, hQ, -⟩ := hM.logs
  subst hP hQ
  have c3 : W.cell? ⟨q, 3, none⟩ = some (.pointer none) := by rw [cell_row hM.cells]; rfl
  have Hfin : Hid (DoPost base w q d b r k5 (.returned (.bool true)) W) := Lib.hid ⟨rfl, ⟨D, none, _, _, hM.both, hI.arm D.armed⟩, hbel⟩
  clear hM hI hA hbel hk x0 hpl
  go_wp2_with fail
  go_ret
  exact Hfin.out

set_option maxHeartbeats 8000000 in
theorem bdo_app (base q d b r : Nat) (D : DS) (WL : WS) (P Q : Value) (k5 : Nat) (op : Op5) (B : Option Addr) (cb : Nat) (C : Option Addr) (cl : Nat) (K : Option Addr) (ck : Nat) (w : World) (h : BothAt base w q d b r D (some WL) P Q) (hI : Inv5 D (some WL) k5) (hk5 : k5 ≤ 60) (hok : op.Ok) (hlo : Light1 op) (hA : OpRd base w op B cb C cl K ck) (hk : op.kind % 7 = 0) :
    Calls Try.prog 14 #[.pointer (some ⟨q, 0, none⟩), .agg (opV5 op B cb C cl K ck)] w fun e w' => DoPost base w q d b r k5 e w' := by
  have hpl := fun W => place_calls op.kind 7 W (by decide) (by decide) hok.kind.1 hok.kind.2
  go_enter Try.func14, Try.ntmps14
  go_wp2_with fail
  have hba := (Below.refl w.heap.size w).alloc (Nat.le_refl _) (.cells (opV5 op B cb C cl K ck) 39)
  have x0 := alloc_new w (.cells (opV5 op B cb C cl K ck) 39) _ rfl
  have hM := h.mid.below hba
  have hbel : Below base w (w.alloc (.cells (opV5 op B cb C cl K ck) 39)) := hba.mono h.low.2.2.2.2
  have hst := hI.steps
  have hlv := hI.lives
  have hG : base ≤ w.heap.size := h.low.2.2.2.2
  have HBW : Hid (base ≤ w.heap.size) := Lib.hid h.low.2.2.2.2
  change Calls _ _ _ (w.alloc (.cells (opV5 op B cb C cl K ck) 39)) _
  clear h hba
  generalize w.alloc (.cells (opV5 op B cb C cl K ck) 39) = W at *
  obtain ⟨G, hGe⟩ : ∃ G, w.heap.size = G := ⟨_, rfl⟩
  rw [hGe] at x0 hG ⊢
  clear hGe
  refine (hpl W).mono ?_
  rw [show op.kind % ((7 : Nat) : Int) = 0 from hk]
  rintro e W' ⟨rfl, rfl⟩
  obtain ⟨p, x, v, rfl, rfl, hp, hx, hbp, hbx, V, hD⟩ := hM.logs
  have hqd : q ≠ d ∧ q ≠ b := ⟨cells_ne hM.cells hD.cells (by decide), map_ne hM.cells hD.map⟩
  have hqr : q ≠ r := cells_ne hM.cells hM.ref.cells (by decide)
  have hqp : q ≠ p := cells_ne hM.cells hp (by decide)
  have hqx : q ≠ x := cells_ne hM.cells hx.cells (by decide)
  have hrd : r ≠ d ∧ r ≠ b := ⟨cells_ne hM.ref.cells hD.cells (by decide), map_ne hM.ref.cells hD.map⟩
  have hrp : r ≠ p := cells_ne hM.ref.cells hp (by decide)
  have hpd : p ≠ d ∧ p ≠ b := ⟨cells_ne hp hD.cells (by decide), map_ne hp hD.map⟩
  have hpx : p ≠ x := cells_ne hp hx.cells (by decide)
  have hxd : x ≠ d ∧ x ≠ b := ⟨cells_ne hx.cells hD.cells (by decide), map_ne hx.cells hD.map⟩
  have hdx : (d ≠ r ∧ b ≠ r) ∧ d ≠ x ∧ b ≠ x := ⟨⟨hrd.1.symm, hrd.2.symm⟩, hxd.1.symm, hxd.2.symm⟩
  have hGd : G ≠ d ∧ G ≠ b := ⟨cells_ne x0 hD.cells (by decide), map_ne x0 hD.map⟩
  have hGr : G ≠ r := cells_ne x0 hM.ref.cells (by decide)
  have hGp : G ≠ p := cells_ne x0 hp (by decide)
  have hGx : G ≠ x := cells_ne x0 hx.cells (by decide)
  have hI1 := hI.log _ rfl
  have hlq := heap_lt hM.cells
  have hlr := heap_lt hM.ref.cells
  have hlp := heap_lt hp
  have hlx := heap_lt hx.cells
  have hlG := heap_lt x0
  have hbR := hI1.recs
  have hbB := hI1.bytes
  have hbg := hI1.gen
  have hbf := hI1.file
  have hlow := hM.low
  have hq := hM.cells
  have hR := hM.ref
  have q3 : W.cell? ⟨q, 3, none⟩ = some (.pointer (some ⟨x, 0, none⟩)) := by rw [cell_row hq]; rfl
  have p0 : W.cell? ⟨G, 0, none⟩ = some (.int .i64 op.kind) := by rw [cell_row x0]; rfl
  have p3 : W.cell? ⟨G, 3, none⟩ = some (.slice B op.b.length cb) := by rw [cell_row x0]; rfl
  have p4 : W.cell? ⟨G, 4, none⟩ = some (.slice C op.l.length cl) := by rw [cell_row x0]; rfl
  have hpl2 := place_calls op.kind 7 W (by decide) (by decide) hok.kind.1 hok.kind.2
  rw [show op.kind % ((7 : Nat) : Int) = 0 from hk] at hpl2
  clear hM hpl
  have hl1 := hlo.1
  obtain ⟨hrB, hcB, -⟩ := hA W hbel
  have htw := twin_calls B cb op.b W hrB (by omega)
  clear hrB p4
  go_wp2_with fail
  refine hpl2.mono ?_
  rintro e W'' ⟨rfl, rfl⟩
  clear hpl2
  go_wp2_with fail
  refine htw.mono ?_
  rintro e w2 ⟨⟨g, rfl, hg, hT⟩, hb2⟩
  clear htw q3 p0 p3
  have hgd : g ≠ d ∧ g ≠ b := by have := hD.lt; omega
  have hgq : g ≠ r ∧ g ≠ p ∧ g ≠ x ∧ g ≠ q := by omega
  have hD2 := (hD.imp (Y := fun k => FreeL q r p x v k ∧ k ≠ g) (fun k hk h => ⟨h, by omega⟩)).move hb2
  have hb3 := hb2.drew
  have hD3 := hD2.move (Below.refl _ _).drew
  have hx3 := hx.below hb3
  have hR3 : RefAt w2.drew r D := hR.move (hb3.block r hlr)
  have hp3 : w2.drew.heap[p]? = some (walCells d WL) := (hb3.block p hlp).trans hp
  have hq3 := (hb3.block q hlq).trans hq
  have hG3 := (hb3.block G hlG).trans x0
  have hT3 : w2.drew.heap[g]? = some (.cells (twinCells op.b).toArray 5 (0, 0)) := hT
  have hbel3 := hbel.trans (hb3.mono hlow.2.2.2.2)
  have hsz3 : W.heap.size ≤ w2.drew.heap.size := hb3.size
  have hgl : g < w2.drew.heap.size := heap_lt hT
  have hs := wapp_steps D WL op.b
  have hI9 := hI1.app hl1
  have hwal := fun U (hp' : U.heap[p]? = some (walCells d WL)) (hD' : DiskAt (fun k => FreeL q r p x v k ∧ k ≠ g) U d b false V D) hX hT' => wapp_calls p d b false V D WL (some ⟨g, 0, none⟩) op.b.length (op.b.length + 3) op.b U hp' hD' hpd (fun k h => h.1.2.2.1) hX (by omega) hT' (by omega) (by omega) (by omega)
  have href := fun U (hx' : RWal U x r base WL v) (hR' : RefAt U r D) hb => app5_calls x r base D WL v op.b U hx' hR' (by omega) (by omega) (by omega) hb
  obtain ⟨R, hRe⟩ : ∃ R, wApp D WL op.b = R := ⟨_, rfl⟩
  rw [hRe] at hs hI9
  simp only [hRe] at hwal href
  have hee : (R.2.2 == R.2.2) = true := by simp
  clear hD hD2 hb2 hb3 hp hx hR hq x0 hT hRe
  go_wp2_with fail
  go_region_held3 (fun U => U.cell? ⟨q, 2, none⟩ = some (.pointer (some ⟨p, 0, none⟩)) ∧ U.cell? ⟨q, 3, none⟩ = some (.pointer (some ⟨x, 0, none⟩)) ∧ U.cell? ⟨G, 3, none⟩ = some (.slice B op.b.length cb) ∧ (convert 35 9 (.slice B op.b.length cb)).run Try.prog U = .ok (.string (txt op.b)) U)
    (exact ⟨by rw [cell_row hq3]; rfl, by rw [cell_row hq3]; rfl, by rw [cell_row hG3]; rfl, run_str (P := Try.prog) (dst := 9) Try.underlying35 Try.underlying5 Try.underlying9 (hA _ hbel3).1 cb⟩)
    (first
      | (go_at_call 19
         refine (hwal _ hp3 hD3 (fun k hk => ⟨⟨by omega, by omega, by omega, by omega, fun e => by have := (hx3.own.lt k e.symm).2; omega⟩, by omega⟩) (twin_rd hT3)).mono ?_
         rintro e w' ⟨rfl, ⟨V', hD'⟩, hp', ho'⟩
         have nn1 := hx3.ne hD3.cells (by decide)
         have nn2 := own_ne_map hx3.own hD3.map
         have nn3 := hx3.ne hp3 (by decide)
         replace hx3 := hx3.move ho' (fun e => e.elim hxd.1 (fun e => e.elim hxd.2 hpx.symm)) (fun k hk e => e.elim (fun e => nn1 (by rw [← e]; exact hk.symm)) (fun e => e.elim (fun e => nn2 (by rw [← e]; exact hk.symm)) (fun e => nn3 (by rw [← e]; exact hk.symm))))
         replace hq3 := (ho'.block q (heap_lt hq3) (fun e => e.elim hqd.1 (fun e => e.elim hqd.2 hqp))).trans hq3
         replace hR3 := hR3.move (ho'.block r (heap_lt hR3.cells) (fun e => e.elim hrd.1 (fun e => e.elim hrd.2 hrp)))
         replace hG3 := (ho'.block G (heap_lt hG3) (fun e => e.elim hGd.1 (fun e => e.elim hGd.2 hGp))).trans hG3
         replace hT3 := (ho'.block g (heap_lt hT3) (fun e => e.elim hgd.1 (fun e => e.elim hgd.2 hgq.2.1))).trans hT3
         replace hbel3 := hbel3.trans (ho'.below (base := base) (fun k hk => by rcases hk with rfl | rfl | rfl <;> omega) (Nat.le_trans hlow.2.2.2.2 hsz3))
         replace hsz3 := Nat.le_trans hsz3 ho'.size
         clear hD3 hp3
         have hD3 := hD'
         have hp3 := hp')
      | (go_at_call 38
         refine (href _ hx3 hR3 (Nat.le_trans hlow.2.2.2.2 hsz3)).mono ?_
         rintro e w9 ⟨rfl, hR', ⟨v', hx', hv'⟩, ho'⟩
         have nn1 := hx3.ne hq3 (by decide)
         have nn2 := hx3.ne hp3 (by decide)
         have nn3 := hx3.ne hG3 (by decide)
         have nn4 := hx3.ne hD3.cells (by decide)
         have nn5 := own_ne_map hx3.own hD3.map
         replace hq3 := (ho'.block q (heap_lt hq3) (fun e => e.elim hqr (fun e => e.elim hqx nn1))).trans hq3
         replace hp3 := (ho'.block p (heap_lt hp3) (fun e => e.elim hrp.symm (fun e => e.elim hpx nn2))).trans hp3
         replace hG3 := (ho'.block G (heap_lt hG3) (fun e => e.elim hGr (fun e => e.elim hGx nn3))).trans hG3
         have n6 := own_ne_blk hx3.own hT3 (by decide)
         replace hT3 := (ho'.block g (heap_lt hT3) (fun e => e.elim hgq.1 (fun e => e.elim hgq.2.2.1 n6))).trans hT3
         replace hbel3 := hbel3.trans (ho'.below (base := base) (fun k hk => by
           rcases hk with rfl | rfl | hk
           · omega
           · omega
           · exact (hx3.own.lt k hk.symm).1) (Nat.le_trans hlow.2.2.2.2 hsz3))
         have hD4 := hD3.over (Y := fun k => FreeL q r p x v' k ∧ k ≠ g) ho'.size (fun k hk hh => ho'.block k hk (fun e => hh.elim (fun h => by subst h; exact e.elim hdx.1.1 (fun e => e.elim hdx.2.1 nn4)) (fun h => h.elim (fun h => by subst h; exact e.elim hdx.1.2 (fun e => e.elim hdx.2.2 nn5)) (fun h => e.elim h.1.2.1 (fun e => e.elim h.1.2.2.2.1 h.1.2.2.2.2))))) (fun k hk hh => ⟨⟨hh.1.1, hh.1.2.1, hh.1.2.2.1, hh.1.2.2.2.1, fun e => (hv' k e.symm).elim hh.1.2.2.2.2 (fun h => absurd hk (Nat.not_lt.2 h))⟩, hh.2⟩)
         replace hsz3 := Nat.le_trans hsz3 ho'.size
         clear hD3 hx3 hR3
         have hD3 := hD4
         have hx3 := hx'
         have hR3 := hR')
      | (go_at_call 39
         refine (kept_calls g B cb op.b _ hT3 (hA _ hbel3).1 (by omega)).mono ?_
         rintro e w10 ⟨rfl, rfl⟩))
  all_goals
    have hsp := spoil_row g op.b.length (op.b.length + 3) (twinCells op.b).toArray _ hT3 (by simp [twinCells, ub_length]) (by omega) (by unfold maxLen; omega)
    go_wp2_with fail
    refine hsp.mono ?_
    rintro e w11 ⟨rfl, ho11⟩
    have n6 := own_ne_blk hx3.own hT3 (by decide)
    have hfr : ∀ k, k ≠ g → w11.heap[k]? = _ := fun k hk => ho11.block k (fun e => hk (by injection e))
    have hB11 : BothAt base w11 q d b r R.1 (some R.2.1) (.pointer (some ⟨p, 0, none⟩)) (.pointer (some ⟨x, 0, none⟩)) := ⟨(hfr q hgq.2.2.2.symm).trans hq3, hR3.move (hfr r hgq.1.symm), ⟨p, x, v', rfl, rfl, (hfr p hgq.2.1.symm).trans hp3, ⟨(hfr x hgq.2.2.1.symm).trans hx3.cells, own_at hx3.own (fun k hk e => hfr k (fun ek => n6 (by rw [← ek]; exact e.symm)))⟩, hbp, hbx, V', (hD3.frame (Nat.le_of_eq ho11.size.symm) (fun k hk hh => hfr k (fun e => hh.elim (fun h => hgd.1 (e.symm.trans h)) (fun h => h.elim (fun h => hgd.2 (e.symm.trans h)) (fun h => h.2 e))))).imp (fun k _ h => h.1)⟩, hlow.1, hlow.2.1, hlow.2.2.1, hlow.2.2.2.1, by have := ho11.size; have := hlow.2.2.2.2; omega⟩
    have Hfin : Hid (DoPost base w q d b r k5 (.returned (.bool true)) w11) := Lib.hid ⟨rfl, ⟨_, _, _, _, hB11, ⟨by omega, by omega, fun W hW => by injection hW with hW; subst hW; exact hI9⟩⟩, hbel3.trans (ho11.below (fun k hk => by injection hk with hk; have := hlow.2.2.2.2; omega))⟩
    clear hB11 hfr hsp hD3 hx3 hR3 hp3 hq3 hG3 hT3 hA hI
    go_wp2_with fail
    go_ret
    exact Hfin.out

set_option maxHeartbeats 8000000 in
theorem bdo_sync (base q d b r : Nat) (D : DS) (WL : WS) (P Q : Value) (k5 : Nat) (op : Op5) (B : Option Addr) (cb : Nat) (C : Option Addr) (cl : Nat) (K : Option Addr) (ck : Nat) (w : World) (h : BothAt base w q d b r D (some WL) P Q) (hI : Inv5 D (some WL) k5) (hk5 : k5 ≤ 60) (hok : op.Ok) (hlo : Light1 op) (hA : OpRd base w op B cb C cl K ck) (hk : op.kind % 7 = 1) :
    Calls Try.prog 14 #[.pointer (some ⟨q, 0, none⟩), .agg (opV5 op B cb C cl K ck)] w fun e w' => DoPost base w q d b r k5 e w' := by
  have hpl := fun W => place_calls op.kind 7 W (by decide) (by decide) hok.kind.1 hok.kind.2
  go_enter Try.func14, Try.ntmps14
  go_wp2_with fail
  have hba := (Below.refl w.heap.size w).alloc (Nat.le_refl _) (.cells (opV5 op B cb C cl K ck) 39)
  have x0 := alloc_new w (.cells (opV5 op B cb C cl K ck) 39) _ rfl
  have hM := h.mid.below hba
  have hbel : Below base w (w.alloc (.cells (opV5 op B cb C cl K ck) 39)) := hba.mono h.low.2.2.2.2
  have hst := hI.steps
  have hlv := hI.lives
  have hG : base ≤ w.heap.size := h.low.2.2.2.2
  have HBW : Hid (base ≤ w.heap.size) := Lib.hid h.low.2.2.2.2
  change Calls _ _ _ (w.alloc (.cells (opV5 op B cb C cl K ck) 39)) _
  clear h hba
  generalize w.alloc (.cells (opV5 op B cb C cl K ck) 39) = W at *
  obtain ⟨G, hGe⟩ : ∃ G, w.heap.size = G := ⟨_, rfl⟩
  rw [hGe] at x0 hG ⊢
  clear hGe
  refine (hpl W).mono ?_
  rw [show op.kind % ((7 : Nat) : Int) = 1 from hk]
  rintro e W' ⟨rfl, rfl⟩
  obtain ⟨p, x, v, rfl, rfl, hp, hx, hbp, hbx, V, hD⟩ := hM.logs
  have hqd : q ≠ d ∧ q ≠ b := ⟨cells_ne hM.cells hD.cells (by decide), map_ne hM.cells hD.map⟩
  have hqr : q ≠ r := cells_ne hM.cells hM.ref.cells (by decide)
  have hqp : q ≠ p := cells_ne hM.cells hp (by decide)
  have hqx : q ≠ x := cells_ne hM.cells hx.cells (by decide)
  have hrd : r ≠ d ∧ r ≠ b := ⟨cells_ne hM.ref.cells hD.cells (by decide), map_ne hM.ref.cells hD.map⟩
  have hrp : r ≠ p := cells_ne hM.ref.cells hp (by decide)
  have hpd : p ≠ d ∧ p ≠ b := ⟨cells_ne hp hD.cells (by decide), map_ne hp hD.map⟩
  have hpx : p ≠ x := cells_ne hp hx.cells (by decide)
  have hxd : x ≠ d ∧ x ≠ b := ⟨cells_ne hx.cells hD.cells (by decide), map_ne hx.cells hD.map⟩
  have hdx : (d ≠ r ∧ b ≠ r) ∧ d ≠ x ∧ b ≠ x := ⟨⟨hrd.1.symm, hrd.2.symm⟩, hxd.1.symm, hxd.2.symm⟩
  have hGd : G ≠ d ∧ G ≠ b := ⟨cells_ne x0 hD.cells (by decide), map_ne x0 hD.map⟩
  have hGr : G ≠ r := cells_ne x0 hM.ref.cells (by decide)
  have hGp : G ≠ p := cells_ne x0 hp (by decide)
  have hGx : G ≠ x := cells_ne x0 hx.cells (by decide)
  have hI1 := hI.log _ rfl
  have hlq := heap_lt hM.cells
  have hlr := heap_lt hM.ref.cells
  have hlp := heap_lt hp
  have hlx := heap_lt hx.cells
  have hlG := heap_lt x0
  have hbR := hI1.recs
  have hbB := hI1.bytes
  have hbg := hI1.gen
  have hbf := hI1.file
  have hlow := hM.low
  have hq := hM.cells
  have hR := hM.ref
  have q3 : W.cell? ⟨q, 3, none⟩ = some (.pointer (some ⟨x, 0, none⟩)) := by rw [cell_row hq]; rfl
  have p0 : W.cell? ⟨G, 0, none⟩ = some (.int .i64 op.kind) := by rw [cell_row x0]; rfl
  have p3 : W.cell? ⟨G, 3, none⟩ = some (.slice B op.b.length cb) := by rw [cell_row x0]; rfl
  have p4 : W.cell? ⟨G, 4, none⟩ = some (.slice C op.l.length cl) := by rw [cell_row x0]; rfl
  have hpl2 := place_calls op.kind 7 W (by decide) (by decide) hok.kind.1 hok.kind.2
  rw [show op.kind % ((7 : Nat) : Int) = 1 from hk] at hpl2
  clear hM hpl
  clear p3 p4
  go_wp2_with fail
  refine hpl2.mono ?_
  rintro e W'' ⟨rfl, rfl⟩
  clear hpl2 q3 p0
  have hb3 := (Below.refl W.heap.size W).drew
  have hD3 := (hD.imp (Y := fun k => FreeL q r p x v k ∧ True) (fun k hk h => ⟨h, trivial⟩)).move hb3
  have hx3 := hx.below hb3
  have hR3 : RefAt W.drew r D := hR.move rfl
  have hp3 : W.drew.heap[p]? = some (walCells d WL) := hp
  have hq3 : W.drew.heap[q]? = some (bothCells d r (.pointer (some ⟨p, 0, none⟩)) (.pointer (some ⟨x, 0, none⟩))) := hq
  have hG3 : W.drew.heap[G]? = some (.cells (opV5 op B cb C cl K ck) 39 (0, 0)) := x0
  have hbel3 := hbel.drew
  have hsz3 : W.heap.size ≤ W.drew.heap.size := Nat.le_refl _
  have hs := wsync_steps D WL
  have hI9 := hI1.sync
  have hwal := fun U (hp' : U.heap[p]? = some (walCells d WL)) (hD' : DiskAt (fun k => FreeL q r p x v k ∧ True) U d b false V D) => wsync_calls p d b false V D WL U hp' hD' hpd (fun k h => h.1.2.2.1) (by omega)
  have href := fun U (hx' : RWal U x r base WL v) (hR' : RefAt U r D) (_ : base ≤ U.heap.size) => sync5_calls x r base D WL v U hx' hR' (by omega)
  obtain ⟨R, hRe⟩ : ∃ R, wSync D WL = R := ⟨_, rfl⟩
  rw [hRe] at hs hI9
  simp only [hRe] at hwal href
  have hee : (R.2.2 == R.2.2) = true := by simp
  clear hD hb3 hp hx hR hq x0 hRe
  go_wp2_with fail
  go_region_held3 (fun U => U.cell? ⟨q, 2, none⟩ = some (.pointer (some ⟨p, 0, none⟩)) ∧ U.cell? ⟨q, 3, none⟩ = some (.pointer (some ⟨x, 0, none⟩)))
    (exact ⟨by rw [cell_row hq3]; rfl, by rw [cell_row hq3]; rfl⟩)
    (first
      | (go_at_call 21
         refine (hwal _ hp3 hD3).mono ?_
         rintro e w' ⟨rfl, ⟨V', hD'⟩, hp', ho'⟩
         have nn1 := hx3.ne hD3.cells (by decide)
         have nn2 := own_ne_map hx3.own hD3.map
         have nn3 := hx3.ne hp3 (by decide)
         replace hx3 := hx3.move ho' (fun e => e.elim hxd.1 (fun e => e.elim hxd.2 hpx.symm)) (fun k hk e => e.elim (fun e => nn1 (by rw [← e]; exact hk.symm)) (fun e => e.elim (fun e => nn2 (by rw [← e]; exact hk.symm)) (fun e => nn3 (by rw [← e]; exact hk.symm))))
         replace hq3 := (ho'.block q (heap_lt hq3) (fun e => e.elim hqd.1 (fun e => e.elim hqd.2 hqp))).trans hq3
         replace hR3 := hR3.move (ho'.block r (heap_lt hR3.cells) (fun e => e.elim hrd.1 (fun e => e.elim hrd.2 hrp)))
         replace hG3 := (ho'.block G (heap_lt hG3) (fun e => e.elim hGd.1 (fun e => e.elim hGd.2 hGp))).trans hG3
         replace hbel3 := hbel3.trans (ho'.below (base := base) (fun k hk => by rcases hk with rfl | rfl | rfl <;> omega) (Nat.le_trans hlow.2.2.2.2 hsz3))
         replace hsz3 := Nat.le_trans hsz3 ho'.size
         clear hD3 hp3
         have hD3 := hD'
         have hp3 := hp')
      | (go_at_call 41
         refine (href _ hx3 hR3 (Nat.le_trans hlow.2.2.2.2 hsz3)).mono ?_
         rintro e w9 ⟨rfl, hR', ⟨v', hx', hv'⟩, ho'⟩
         have nn1 := hx3.ne hq3 (by decide)
         have nn2 := hx3.ne hp3 (by decide)
         have nn3 := hx3.ne hG3 (by decide)
         have nn4 := hx3.ne hD3.cells (by decide)
         have nn5 := own_ne_map hx3.own hD3.map
         replace hq3 := (ho'.block q (heap_lt hq3) (fun e => e.elim hqr (fun e => e.elim hqx nn1))).trans hq3
         replace hp3 := (ho'.block p (heap_lt hp3) (fun e => e.elim hrp.symm (fun e => e.elim hpx nn2))).trans hp3
         replace hG3 := (ho'.block G (heap_lt hG3) (fun e => e.elim hGr (fun e => e.elim hGx nn3))).trans hG3
         replace hbel3 := hbel3.trans (ho'.below (base := base) (fun k hk => by
           rcases hk with rfl | rfl | hk
           · omega
           · omega
           · exact (hx3.own.lt k hk.symm).1) (Nat.le_trans hlow.2.2.2.2 hsz3))
         have hD4 := hD3.over (Y := fun k => FreeL q r p x v' k ∧ True) ho'.size (fun k hk hh => ho'.block k hk (fun e => hh.elim (fun h => by subst h; exact e.elim hdx.1.1 (fun e => e.elim hdx.2.1 nn4)) (fun h => h.elim (fun h => by subst h; exact e.elim hdx.1.2 (fun e => e.elim hdx.2.2 nn5)) (fun h => e.elim h.1.2.1 (fun e => e.elim h.1.2.2.2.1 h.1.2.2.2.2))))) (fun k hk hh => ⟨⟨hh.1.1, hh.1.2.1, hh.1.2.2.1, hh.1.2.2.2.1, fun e => (hv' k e.symm).elim hh.1.2.2.2.2 (fun h => absurd hk (Nat.not_lt.2 h))⟩, hh.2⟩)
         replace hsz3 := Nat.le_trans hsz3 ho'.size
         clear hD3 hx3 hR3
         have hD3 := hD4
         have hx3 := hx'
         have hR3 := hR'))
  all_goals
    have hB11 : BothAt base _ q d b r R.1 (some R.2.1) (.pointer (some ⟨p, 0, none⟩)) (.pointer (some ⟨x, 0, none⟩)) := ⟨hq3, hR3, ⟨p, x, v', rfl, rfl, hp3, hx3, hbp, hbx, V', hD3.imp (fun k _ h => h.1)⟩, hlow.1, hlow.2.1, hlow.2.2.1, hlow.2.2.2.1, Nat.le_trans hlow.2.2.2.2 hsz3⟩
    have Hfin : Hid (DoPost base w q d b r k5 (.returned (.bool true)) _) := Lib.hid ⟨rfl, ⟨_, _, _, _, hB11, ⟨by omega, by omega, fun W hW => by injection hW with hW; subst hW; exact hI9⟩⟩, hbel3⟩
    clear hB11 hD3 hx3 hR3 hp3 hq3 hG3 hA hI
    go_wp2_with fail
    go_ret
    exact Hfin.out
end Go.Proofs.Ythcajaadbdiggaa
