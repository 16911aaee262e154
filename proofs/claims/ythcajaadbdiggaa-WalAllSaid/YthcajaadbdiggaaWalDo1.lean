/- The struct of a log and the document's: do, kinds 3 to 6 (printed by gendo5.py). -/
import Derived.Test.YthcajaadbdiggaaWalMid
import Derived.Test.YthcajaadbdiggaaRef4Power
import Derived.BigRegion
namespace Go.Proofs.Ythcajaadbdiggaa
set_option maxRecDepth 1000000
open Go.RowKit

set_option maxHeartbeats 8000000 in
theorem bdo_arm (base q d b r : Nat) (D : DS) (o : Option WS) (P Q : Value) (k5 : Nat) (op : Op5) (B : Option Addr) (cb : Nat) (C : Option Addr) (cl : Nat) (K : Option Addr) (ck : Nat) (w : World) (h : BothAt base w q d b r D (o) P Q) (hI : Inv5 D (o) k5) (hk5 : k5 ≤ 60) (hok : op.Ok) (hlo : Light1 op) (hA : OpRd base w op B cb C cl K ck) (hk : op.kind % 7 = 3) :
    Calls Try.prog 14 #[.pointer (some ⟨q, 0, none⟩), .agg (opV5 op B cb C cl K ck)] w fun e w' => DoPost base w q d b r k5 e w' := by
  have hpl := fun W => place_calls op.kind 7 W (by decide) (by decide) hok.kind.1 hok.kind.2
  go_enter Try.func14, Try.ntmps14
  go_wp2_with fail
  have hba := (Below.refl w.heap.size w).alloc (Nat.le_refl _) (.cells (opV5 op B cb C cl K ck) 39)
  have x0 := alloc_new w (.cells (opV5 op B cb C cl K ck) 39) _ rfl
  have hM := h.mid.below hba
  have hbel : Below base w (w.alloc (.cells (opV5 op B cb C cl K ck) 39)) := hba.mono h.low.2.2.2.2
  have hst := hI.steps
  have hlv := hI.lives
  have hG : base ≤ w.heap.size := h.low.2.2.2.2
  have HBW : Hid (base ≤ w.heap.size) := Lib.hid h.low.2.2.2.2
  change Calls _ _ _ (w.alloc (.cells (opV5 op B cb C cl K ck) 39)) _
  clear h hba
  generalize w.alloc (.cells (opV5 op B cb C cl K ck) 39) = W at *
  obtain ⟨G, hGe⟩ : ∃ G, w.heap.size = G := ⟨_, rfl⟩
  rw [hGe] at x0 hG ⊢
  clear hGe
  refine (hpl W).mono ?_
  rw [show op.kind % ((7 : Nat) : Int) = 3 from hk]
  rintro e W' ⟨rfl, rfl⟩
  obtain ⟨X, V, hD, hX2, hqd, hrd, hnext⟩ := hM.opDisk
  have hGd : G ≠ d ∧ G ≠ b := ⟨cells_ne x0 hD.cells (by decide), map_ne x0 hD.map⟩
  have hGr : G ≠ r := cells_ne x0 hM.ref.cells (by decide)
  have hqr : q ≠ r := cells_ne hM.cells hM.ref.cells (by decide)
  have hdr := (Below.refl W.heap.size W).drew
  have hx3 := x0
  have hq3 := hM.cells
  have hD3 : DiskAt X W.drew d b false V D := hD.move hdr
  have hx3 : W.drew.heap[G]? = some (.cells (opV5 op B cb C cl K ck) 39 (0, 0)) := x0
  have hq3 : W.drew.heap[q]? = some (bothCells d r P Q) := hM.cells
  have ho3 : OnlyD d b W W.drew := OnlyD.of_below hdr
  go_wp2_with fail
  go_region_held3 (fun U => U.cell? ⟨q, 0, none⟩ = some (.pointer (some ⟨d, 0, none⟩)) ∧ U.cell? ⟨G, 1, none⟩ = some (.int .i64 op.n))
    (exact ⟨by rw [cell_row hq3]; rfl, by rw [cell_row hx3]; rfl⟩)
    (first
      | (go_at_call 17
         refine (arm_calls d b false V D op.n _ hD3 hok.n.2).mono ?_
         rintro e w' ⟨rfl, hD', ho'⟩
         replace hq3 := (ho'.block q (heap_lt hq3) hqd.1 hqd.2).trans hq3
         replace hx3 := (ho'.block G (heap_lt hx3) hGd.1 hGd.2).trans hx3
         replace ho3 := ho3.trans ho'
         clear hD3
         have hD3 := hD'))
  obtain ⟨hM3, hb3⟩ := hnext _ _ _ hD3 ho3
  have hmx := fun U => run_max2 (P := Try.prog) #[3, 3] 3 op.n (-1) U
  have hbel3 := hbel.trans hb3
  clear hnext hD hD3 ho3 hM hbel hb3 x0 hdr hpl
  obtain ⟨e4, e5, e6, e7, ef⟩ := hM3.ref.cell
  have c1 : w'.cell? ⟨q, 1, none⟩ = some (.pointer (some ⟨r, 0, none⟩)) := by rw [cell_row hq3]; rfl
  have p1 : w'.cell? ⟨G, 1, none⟩ = some (.int .i64 op.n) := by rw [cell_row hx3]; rfl
  have hR9 : ∀ N, RefAt ((w'.drewN N).setCell ⟨r, 5, none⟩ (.int .i64 (max op.n (-1)))) r { D with armed := max op.n (-1) } := fun N =>
    ⟨by rw [set_row (w := w'.drewN N) hM3.ref.cells]; simp [refCells], by
      obtain ⟨X9, V9, hD9, -⟩ := hM3.opDisk
      exact hD9.ok⟩
  have ho9 : ∀ N, OnlyD r r w' ((w'.drewN N).setCell ⟨r, 5, none⟩ (.int .i64 (max op.n (-1)))) := fun N => (OnlyD.of_below (below_drewN (Below.refl _ _) N)).setCell 5 _
  have Hfin : ∀ N, Hid (DoPost base w q d b r k5 (.returned (.bool true)) ((w'.drewN N).setCell ⟨r, 5, none⟩ (.int .i64 (max op.n (-1))))) := fun N => Lib.hid (by
    obtain ⟨hM9, hb9⟩ := hM3.opRef (hR9 N) (ho9 N)
    exact ⟨rfl, ⟨_, _, P, Q, hM9.both, hI.arm _⟩, hbel3.trans hb9⟩)
  clear hR9 ho9 hM3 hq3 hx3 hbel3 e4 e6 e7 hI hA
  go_wp2_with fail
  go_region
  all_goals
    go_wp2_with fail
    go_ret
    first | exact (Hfin 1).out | exact (Hfin _).out

set_option maxHeartbeats 8000000 in
theorem bdo_power (base q d b r : Nat) (D : DS) (o : Option WS) (P Q : Value) (k5 : Nat) (op : Op5) (B : Option Addr) (cb : Nat) (C : Option Addr) (cl : Nat) (K : Option Addr) (ck : Nat) (w : World) (h : BothAt base w q d b r D (o) P Q) (hI : Inv5 D (o) k5) (hk5 : k5 ≤ 60) (hok : op.Ok) (hlo : Light1 op) (hA : OpRd base w op B cb C cl K ck) (hk : op.kind % 7 = 4) :
    Calls Try.prog 14 #[.pointer (some ⟨q, 0, none⟩), .agg (opV5 op B cb C cl K ck)] w fun e w' => DoPost base w q d b r k5 e w' := by
  have hpl := fun W => place_calls op.kind 7 W (by decide) (by decide) hok.kind.1 hok.kind.2
  go_enter Try.func14, Try.ntmps14
  go_wp2_with fail
  have hba := (Below.refl w.heap.size w).alloc (Nat.le_refl _) (.cells (opV5 op B cb C cl K ck) 39)
  have x0 := alloc_new w (.cells (opV5 op B cb C cl K ck) 39) _ rfl
  have hM := h.mid.below hba
  have hbel : Below base w (w.alloc (.cells (opV5 op B cb C cl K ck) 39)) := hba.mono h.low.2.2.2.2
  have hst := hI.steps
  have hlv := hI.lives
  have hG : base ≤ w.heap.size := h.low.2.2.2.2
  have HBW : Hid (base ≤ w.heap.size) := Lib.hid h.low.2.2.2.2
  change Calls _ _ _ (w.alloc (.cells (opV5 op B cb C cl K ck) 39)) _
  clear h hba
  generalize w.alloc (.cells (opV5 op B cb C cl K ck) 39) = W at *
  obtain ⟨G, hGe⟩ : ∃ G, w.heap.size = G := ⟨_, rfl⟩
  rw [hGe] at x0 hG ⊢
  clear hGe
  refine (hpl W).mono ?_
  rw [show op.kind % ((7 : Nat) : Int) = 4 from hk]
  rintro e W' ⟨rfl, rfl⟩
  obtain ⟨X, V, hD, hX2, hqd, hrd, hnext⟩ := hM.opDisk
  have hGd : G ≠ d ∧ G ≠ b := ⟨cells_ne x0 hD.cells (by decide), map_ne x0 hD.map⟩
  have hGr : G ≠ r := cells_ne x0 hM.ref.cells (by decide)
  have hqr : q ≠ r := cells_ne hM.cells hM.ref.cells (by decide)
  have hdr := (Below.refl W.heap.size W).drew
  have hD3 : DiskAt X W.drew d b false V D := hD.move hdr
  have hx3 : W.drew.heap[G]? = some (.cells (opV5 op B cb C cl K ck) 39 (0, 0)) := x0
  have hq3 : W.drew.heap[q]? = some (bothCells d r P Q) := hM.cells
  have ho3 : OnlyD d b W W.drew := OnlyD.of_below hdr
  have hbelD : Below base w W.drew := hbel.drew
  go_wp2_with fail
  go_region_held3 (fun U => U.cell? ⟨q, 0, none⟩ = some (.pointer (some ⟨d, 0, none⟩)) ∧ U.cell? ⟨G, 5, none⟩ = some (.slice K op.keep.length ck))
    (exact ⟨by rw [cell_row hq3]; rfl, by rw [cell_row hx3]; rfl⟩)
    (first
      | (go_at_call 30
         refine (power_calls d b false V D K op.keep.length ck op.keep _ hD3 (fun w' ho' => (hA _ (hbelD.trans (ho'.below hM.low.2.1 hM.low.2.2.1 hM.low.2.2.2.2))).2.2.2.2.1) hok.keep (by have := hlo.2.2.2; omega) (by omega)).mono ?_
         rintro e w' ⟨rfl, ⟨V', hD'⟩, ho'⟩
         replace hq3 := (ho'.block q (heap_lt hq3) hqd.1 hqd.2).trans hq3
         replace hx3 := (ho'.block G (heap_lt hx3) hGd.1 hGd.2).trans hx3
         replace ho3 := ho3.trans ho'
         clear hD3
         have hD3 := hD'))
  obtain ⟨hM3, hb3⟩ := hnext _ _ _ hD3 ho3
  have hbel3 := hbel.trans hb3
  clear hnext hD hD3 ho3 hM hbel hbelD hb3 x0 hdr hpl
  have hM4 := hM3.below (Below.refl w'.heap.size w').drew
  have hx4 : w'.drew.heap[G]? = some (.cells (opV5 op B cb C cl K ck) 39 (0, 0)) := hx3
  have hbel4 : Below base w w'.drew := hbel3.drew
  clear hM3 hx3 hq3 hbel3
  go_wp2_with fail
  go_region_held3 (fun U => U.cell? ⟨q, 1, none⟩ = some (.pointer (some ⟨r, 0, none⟩)) ∧ U.cell? ⟨G, 5, none⟩ = some (.slice K op.keep.length ck))
    (exact ⟨by rw [cell_row hM4.cells]; rfl, by rw [cell_row hx4]; rfl⟩)
    (first
      | (go_at_call 34
         refine (ref4power_calls r D K op.keep.length ck op.keep _ hM4.ref (fun w' ho' => (hA _ (hbel4.trans (ho'.below hM4.low.2.2.2.1 hM4.low.2.2.2.1 hM4.low.2.2.2.2))).2.2.2.2.1) hok.keep (by have := hlo.2.2.2; omega) (by omega)).mono ?_
         rintro e w9 ⟨rfl, hR', ho'⟩
         have hM5 := hM4.opRef hR' ho'
         replace hx4 := (ho'.block G (heap_lt hx4) hGr hGr).trans hx4
         clear hM4
         have hM4 := hM5.1
         replace hbel4 := hbel4.trans hM5.2))
  have e1 : (D.power op.keep).steps = D.steps := rfl
  have e2 : (D.power op.keep).lives = D.lives + 1 := rfl
  clear hx4 hI hA hM5
  have hbo := bopen_calls base q d b r (D.power op.keep) o P Q w9 hM4.both (by omega)
  go_wp2_with fail
  refine hbo.mono ?_
  rintro e w8 ⟨rfl, ⟨P', Q', hB8⟩, hb8, -⟩
  have Hfin : Hid (DoPost base w q d b r k5 (.returned (.bool true)) w8) := Lib.hid ⟨rfl, ⟨_, _, P', Q', hB8, Inv5.opened hM4.ref.ok hB8.ref.ok (by omega) (by omega)⟩, hbel4.trans hb8⟩
  clear hbo hB8 hb8 hM4 hbel4
  go_wp2_with fail
  go_ret
  exact Hfin.out

set_option maxHeartbeats 8000000 in
theorem bdo_open (base q d b r : Nat) (D : DS) (o : Option WS) (P Q : Value) (k5 : Nat) (op : Op5) (B : Option Addr) (cb : Nat) (C : Option Addr) (cl : Nat) (K : Option Addr) (ck : Nat) (w : World) (h : BothAt base w q d b r D (o) P Q) (hI : Inv5 D (o) k5) (hk5 : k5 ≤ 60) (hok : op.Ok) (hlo : Light1 op) (hA : OpRd base w op B cb C cl K ck) (hk : op.kind % 7 = 5) :
    Calls Try.prog 14 #[.pointer (some ⟨q, 0, none⟩), .agg (opV5 op B cb C cl K ck)] w fun e w' => DoPost base w q d b r k5 e w' := by
  have hpl := fun W => place_calls op.kind 7 W (by decide) (by decide) hok.kind.1 hok.kind.2
  go_enter Try.func14, Try.ntmps14
  go_wp2_with fail
  have hba := (Below.refl w.heap.size w).alloc (Nat.le_refl _) (.cells (opV5 op B cb C cl K ck) 39)
  have x0 := alloc_new w (.cells (opV5 op B cb C cl K ck) 39) _ rfl
  have hM := h.mid.below hba
  have hbel : Below base w (w.alloc (.cells (opV5 op B cb C cl K ck) 39)) := hba.mono h.low.2.2.2.2
  have hst := hI.steps
  have hlv := hI.lives
  have hG : base ≤ w.heap.size := h.low.2.2.2.2
  have HBW : Hid (base ≤ w.heap.size) := Lib.hid h.low.2.2.2.2
  change Calls _ _ _ (w.alloc (.cells (opV5 op B cb C cl K ck) 39)) _
  clear h hba
  generalize w.alloc (.cells (opV5 op B cb C cl K ck) 39) = W at *
  obtain ⟨G, hGe⟩ : ∃ G, w.heap.size = G := ⟨_, rfl⟩
  rw [hGe] at x0 hG ⊢
  clear hGe
  refine (hpl W).mono ?_
  rw [show op.kind % ((7 : Nat) : Int) = 5 from hk]
  rintro e W' ⟨rfl, rfl⟩
  clear hI hA hpl x0
  have hbo := bopen_calls base q d b r D o P Q W hM.both (by omega)
  go_wp2_with fail
  refine hbo.mono ?_
  rintro e w8 ⟨rfl, ⟨P', Q', hB8⟩, hb8, -⟩
  have Hfin : Hid (DoPost base w q d b r k5 (.returned (.bool true)) w8) := Lib.hid ⟨rfl, ⟨_, _, P', Q', hB8, Inv5.opened hM.ref.ok hB8.ref.ok (by omega) (by omega)⟩, hbel.trans hb8⟩
  clear hbo hB8 hb8 hM hbel
  go_wp2_with fail
  go_ret
  exact Hfin.out

set_option maxHeartbeats 8000000 in
theorem bdo_write (base q d b r : Nat) (D : DS) (o : Option WS) (P Q : Value) (k5 : Nat) (op : Op5) (B : Option Addr) (cb : Nat) (C : Option Addr) (cl : Nat) (K : Option Addr) (ck : Nat) (w : World) (h : BothAt base w q d b r D (o) P Q) (hI : Inv5 D (o) k5) (hk5 : k5 ≤ 60) (hok : op.Ok) (hlo : Light1 op) (hA : OpRd base w op B cb C cl K ck) (hk : op.kind % 7 = 6) :
    Calls Try.prog 14 #[.pointer (some ⟨q, 0, none⟩), .agg (opV5 op B cb C cl K ck)] w fun e w' => DoPost base w q d b r k5 e w' := by
  have hpl := fun W => place_calls op.kind 7 W (by decide) (by decide) hok.kind.1 hok.kind.2
  go_enter Try.func14, Try.ntmps14
  go_wp2_with fail
  have hba := (Below.refl w.heap.size w).alloc (Nat.le_refl _) (.cells (opV5 op B cb C cl K ck) 39)
  have x0 := alloc_new w (.cells (opV5 op B cb C cl K ck) 39) _ rfl
  have hM := h.mid.below hba
  have hbel : Below base w (w.alloc (.cells (opV5 op B cb C cl K ck) 39)) := hba.mono h.low.2.2.2.2
  have hst := hI.steps
  have hlv := hI.lives
  have hG : base ≤ w.heap.size := h.low.2.2.2.2
  have HBW : Hid (base ≤ w.heap.size) := Lib.hid h.low.2.2.2.2
  change Calls _ _ _ (w.alloc (.cells (opV5 op B cb C cl K ck) 39)) _
  clear h hba
  generalize w.alloc (.cells (opV5 op B cb C cl K ck) 39) = W at *
  obtain ⟨G, hGe⟩ : ∃ G, w.heap.size = G := ⟨_, rfl⟩
  rw [hGe] at x0 hG ⊢
  clear hGe
  refine (hpl W).mono ?_
  rw [show op.kind % ((7 : Nat) : Int) = 6 from hk]
  rintro e W' ⟨rfl, rfl⟩
  have p2 : W.cell? ⟨G, 2, none⟩ = some (.bool op.made) := by rw [cell_row x0]; rfl
  have p3 : W.cell? ⟨G, 3, none⟩ = some (.slice B op.b.length cb) := by rw [cell_row x0]; rfl
  have hl1 := hlo.1
  have hSB : ∀ (W2 U : World), OnlyS (SB d b q r) W2 U → Below base w W2 → base ≤ W2.heap.size → Below base w U := fun W2 U ho hb hs => hb.trans (ho.below (fun k hk => by have := hM.low; rcases hk with rfl | rfl | rfl | rfl <;> omega) hs)
  cases hmd : op.made
  · rw [hmd] at p2
    have HY : Hid (∀ U, OnlyS (SB d b q r) W U → Rd U B op.b.length (ub op.b)) := Lib.hid (fun U hU => (hA U (hSB W U hU hbel hM.low.2.2.2.2)).1)
    clear hSB
    obtain ⟨X, V, hD, hX2, hqd, hrd, hnext⟩ := hM.opDisk
    have hGd : G ≠ d ∧ G ≠ b := ⟨cells_ne x0 hD.cells (by decide), map_ne x0 hD.map⟩
    have hGr : G ≠ r := cells_ne x0 hM.ref.cells (by decide)
    have hGq : G ≠ q := cells_ne x0 hM.cells (by decide)
    have hqr : q ≠ r := cells_ne hM.cells hM.ref.cells (by decide)
    have hD3 : DiskAt X W.drew d b false V D := hD.move (Below.refl _ _).drew
    have hx3 : W.drew.heap[G]? = some (.cells (opV5 op B cb C cl K ck) 39 (0, 0)) := x0
    have hq3 : W.drew.heap[q]? = some (bothCells d r P Q) := hM.cells
    have ho3 : OnlyD d b W W.drew := OnlyD.of_below (Below.refl _ _).drew
    have hoS : OnlyS (SB d b q r) W W.drew := OnlyS.of_below (Below.refl _ _).drew
    have hee : ((D.appR op.n op.b).2 == (D.appR op.n op.b).2) = true := by simp
    have hps := appR_steps D op.n op.b
    have hpv := appR_lives D op.n op.b
    clear hD x0 hpl
    go_wp2_with fail
    go_region_held3 (fun U => U.cell? ⟨q, 0, none⟩ = some (.pointer (some ⟨d, 0, none⟩)) ∧ U.cell? ⟨q, 1, none⟩ = some (.pointer (some ⟨r, 0, none⟩)) ∧ U.cell? ⟨G, 1, none⟩ = some (.int .i64 op.n) ∧ (convert 35 9 (.slice B op.b.length cb)).run Try.prog U = .ok (.string (txt op.b)) U)
      (exact ⟨by rw [cell_row hq3]; rfl, by rw [cell_row hq3]; rfl, by rw [cell_row hx3]; rfl, run_str (P := Try.prog) (dst := 9) Try.underlying35 Try.underlying5 Try.underlying9 (HY.out _ hoS) cb⟩)
      (first
        | (go_at_call 26
           refine (appR_calls op.n hD3 (HY.out _ hoS) (by omega) (fun k hk => hX2 k hk) (by omega)).mono ?_
           rintro e w' ⟨rfl, ⟨V', hD'⟩, ho'⟩
           replace hq3 := (ho'.block q (heap_lt hq3) hqd.1 hqd.2).trans hq3
           replace hx3 := (ho'.block G (heap_lt hx3) hGd.1 hGd.2).trans hx3
           replace hoS := hoS.trans (OnlyS.of_d ho' (.inl rfl) (.inr (.inl rfl)))
           have hM5 := hnext _ _ _ hD' (ho3.trans ho'))
        | (go_at_call 36
           refine (ref4app_calls r D op.n op.b _ hM5.1.ref (by omega) (by omega)).mono ?_
           rintro e w9 ⟨rfl, hR', ho'⟩
           replace hq3 := (ho'.block q (heap_lt hq3) hqr hqr).trans hq3
           replace hx3 := (ho'.block G (heap_lt hx3) hGr hGr).trans hx3
           replace hoS := hoS.trans (OnlyS.of_d ho' (.inr (.inr (.inr rfl))) (.inr (.inr (.inr rfl))))
           have hM6 := hM5.1.opRef hR' ho')
        | (go_at_call 13
           refine (bopen_calls base q d b r (D.appR op.n op.b).1 o P Q _ hM6.1.both (by omega)).mono ?_
           rintro e w10 ⟨rfl, ⟨P', Q', hB8⟩, hb8, hos⟩
           replace hq3 := hB8.cells
           replace hx3 := (hos.block G (heap_lt hx3) (fun e => e.elim hGd.1 (fun e => e.elim hGd.2 (fun e => e.elim hGq hGr)))).trans hx3
           replace hoS := hoS.trans hos))
    all_goals
      have Hfin : Hid (DoPost base w q d b r k5 (.returned (.bool true)) w10) := Lib.hid ⟨rfl, ⟨_, _, P', Q', hB8, Inv5.opened hM6.1.ref.ok hB8.ref.ok (by omega) (by omega)⟩, ((hbel.trans hM5.2).trans hM6.2).trans hb8⟩
      clear hB8 hb8 hM6 hM5 hq3 hx3 hos hoS hee hI hA
      go_wp2_with fail
      go_ret
      exact Hfin.out
  · rw [hmd] at p2
    obtain ⟨hrB, hcB, -⟩ := hA W hbel
    have hput := ref3put_calls none B 0 0 op.b.length cb [] op.b W (Rd.none_ _ _) hrB hcB (by decide) (by omega)
    clear hrB hcB
    go_wp2_with fail
    refine hput.mono ?_
    rintro e W2 ⟨⟨u, yn, rfl, hyn, hown⟩, hb2⟩
    rw [List.nil_append] at hown
    have hM2 := hM.below hb2
    have hbel2 := hbel.trans (hb2.mono hM.low.2.2.2.2)
    obtain ⟨Y, yc, rfl, -, hrdY⟩ := own_rd hown
    have HY : Hid (∀ U, OnlyS (SB d b q r) W2 U → Rd U Y yn (ub (enc op.b))) := by
      obtain ⟨X9, V9, hD9, -⟩ := hM2.opDisk
      have n1 := own_ne_blk hown hD9.cells (by decide)
      have n2 := own_ne_map hown hD9.map
      have n3 := own_ne_blk hown hM2.cells (by decide)
      have n4 := own_ne_blk hown hM2.ref.cells (by decide)
      refine Lib.hid (fun U hU => hrdY.at_block (fun ad e => ?_))
      subst e
      refine hU.block _ (hown.lt _ rfl).2 (fun hs => ?_)
      rcases hs with e | e | e | e
      · exact n1 (by rw [← e]; rfl)
      · exact n2 (by rw [← e]; rfl)
      · exact n3 (by rw [← e]; rfl)
      · exact n4 (by rw [← e]; rfl)
    have hyl : (enc op.b).length = yn := hrdY.len
    have hyb : yn ≤ 1000 := by omega
    replace x0 := (hb2.block _ (heap_lt x0)).trans x0
    clear hSB hown hrdY hput hb2 hM hbel hyn p2 p3
    obtain ⟨X, V, hD, hX2, hqd, hrd, hnext⟩ := hM2.opDisk
    have hGd : G ≠ d ∧ G ≠ b := ⟨cells_ne x0 hD.cells (by decide), map_ne x0 hD.map⟩
    have hGr : G ≠ r := cells_ne x0 hM2.ref.cells (by decide)
    have hGq : G ≠ q := cells_ne x0 hM2.cells (by decide)
    have hqr : q ≠ r := cells_ne hM2.cells hM2.ref.cells (by decide)
    have hD3 : DiskAt X W2.drew d b false V D := hD.move (Below.refl _ _).drew
    have hx3 : W2.drew.heap[G]? = some (.cells (opV5 op B cb C cl K ck) 39 (0, 0)) := x0
    have hq3 : W2.drew.heap[q]? = some (bothCells d r P Q) := hM2.cells
    have ho3 : OnlyD d b W2 W2.drew := OnlyD.of_below (Below.refl _ _).drew
    have hoS : OnlyS (SB d b q r) W2 W2.drew := OnlyS.of_below (Below.refl _ _).drew
    have hee : ((D.appR op.n (enc op.b)).2 == (D.appR op.n (enc op.b)).2) = true := by simp
    have hps := appR_steps D op.n (enc op.b)
    have hpv := appR_lives D op.n (enc op.b)
    clear hD x0 hpl
    go_wp2_with fail
    go_region_held3 (fun U => U.cell? ⟨q, 0, none⟩ = some (.pointer (some ⟨d, 0, none⟩)) ∧ U.cell? ⟨q, 1, none⟩ = some (.pointer (some ⟨r, 0, none⟩)) ∧ U.cell? ⟨G, 1, none⟩ = some (.int .i64 op.n) ∧ (convert 35 9 (.slice Y yn yc)).run Try.prog U = .ok (.string (txt (enc op.b))) U)
      (exact ⟨by rw [cell_row hq3]; rfl, by rw [cell_row hq3]; rfl, by rw [cell_row hx3]; rfl, run_str (P := Try.prog) (dst := 9) Try.underlying35 Try.underlying5 Try.underlying9 (HY.out _ hoS) yc⟩)
      (first
        | (go_at_call 26
           refine (appR_calls op.n hD3 (HY.out _ hoS) (by omega) (fun k hk => hX2 k hk) (by omega)).mono ?_
           rintro e w' ⟨rfl, ⟨V', hD'⟩, ho'⟩
           replace hq3 := (ho'.block q (heap_lt hq3) hqd.1 hqd.2).trans hq3
           replace hx3 := (ho'.block G (heap_lt hx3) hGd.1 hGd.2).trans hx3
           replace hoS := hoS.trans (OnlyS.of_d ho' (.inl rfl) (.inr (.inl rfl)))
           have hM5 := hnext _ _ _ hD' (ho3.trans ho'))
        | (go_at_call 36
           refine (ref4app_calls r D op.n (enc op.b) _ hM5.1.ref (by omega) (by omega)).mono ?_
           rintro e w9 ⟨rfl, hR', ho'⟩
           replace hq3 := (ho'.block q (heap_lt hq3) hqr hqr).trans hq3
           replace hx3 := (ho'.block G (heap_lt hx3) hGr hGr).trans hx3
           replace hoS := hoS.trans (OnlyS.of_d ho' (.inr (.inr (.inr rfl))) (.inr (.inr (.inr rfl))))
           have hM6 := hM5.1.opRef hR' ho')
        | (go_at_call 13
           refine (bopen_calls base q d b r (D.appR op.n (enc op.b)).1 o P Q _ hM6.1.both (by omega)).mono ?_
           rintro e w10 ⟨rfl, ⟨P', Q', hB8⟩, hb8, hos⟩
           replace hq3 := hB8.cells
           replace hx3 := (hos.block G (heap_lt hx3) (fun e => e.elim hGd.1 (fun e => e.elim hGd.2 (fun e => e.elim hGq hGr)))).trans hx3
           replace hoS := hoS.trans hos))
    all_goals
      have Hfin : Hid (DoPost base w q d b r k5 (.returned (.bool true)) w10) := Lib.hid ⟨rfl, ⟨_, _, P', Q', hB8, Inv5.opened hM6.1.ref.ok hB8.ref.ok (by omega) (by omega)⟩, ((hbel2.trans hM5.2).trans hM6.2).trans hb8⟩
      clear hB8 hb8 hM6 hM5 hq3 hx3 hos hoS hee hI hA
      go_wp2_with fail
      go_ret
      exact Hfin.out
end Go.Proofs.Ythcajaadbdiggaa
