/- The struct of a log and the document's: open. -/
import Derived.Test.YthcajaadbdiggaaRef5Open
namespace Go.Proofs.Ythcajaadbdiggaa
set_option maxRecDepth 1000000
open Go.RowKit

abbrev bothCells (d r : Nat) (P Q : Value) : Obj := .cells #[.pointer (some ⟨d, 0, none⟩), .pointer (some ⟨r, 0, none⟩), P, Q] 33 (0, 0)
/-- the blocks in which a disk's files may lie -/
abbrev FreeB (q r : Nat) : Nat → Prop := fun k => k ≠ q ∧ k ≠ r
abbrev FreeL (q r p x : Nat) (v : Value) : Nat → Prop := fun k => k ≠ q ∧ k ≠ r ∧ k ≠ p ∧ k ≠ x ∧ some k ≠ v.ownBlock
/-- the logs that both have, or none -/
def Logs (base : Nat) (w : World) (q d b r : Nat) (D : DS) (P Q : Value) : Option WS → Prop
  | none => P = .pointer none ∧ Q = .pointer none ∧ ∃ V, DiskAt (FreeB q r) w d b false V D
  | some W => ∃ p x v, P = .pointer (some ⟨p, 0, none⟩) ∧ Q = .pointer (some ⟨x, 0, none⟩) ∧ w.heap[p]? = some (walCells d W) ∧ RWal w x r base W v ∧ base ≤ p ∧ base ≤ x ∧ ∃ V, DiskAt (FreeL q r p x v) w d b false V D
structure BothAt (base : Nat) (w : World) (q d b r : Nat) (D : DS) (o : Option WS) (P Q : Value) : Prop where
  cells : w.heap[q]? = some (bothCells d r P Q)
  ref : RefAt w r D
  logs : Logs base w q d b r D P Q o
  low : base ≤ q ∧ base ≤ d ∧ base ≤ b ∧ base ≤ r ∧ base ≤ w.heap.size

theorem cells_ne {w : World} {i j : Nat} {c1 c2 : Array Value} {t1 t2 : TypeId} {f1 f2 : Nat × Nat} (h1 : w.heap[i]? = some (.cells c1 t1 f1)) (h2 : w.heap[j]? = some (.cells c2 t2 f2)) (h : t1 ≠ t2) : i ≠ j := fun e => by
  rw [e, h2] at h1
  injection h1 with h1
  injection h1 with _ h1 _
  exact h h1.symm
theorem map_ne {w : World} {i j : Nat} {c1 : Array Value} {t1 : TypeId} {f1 : Nat × Nat} {es : Array MapEntry} {n : Nat} (h1 : w.heap[i]? = some (.cells c1 t1 f1)) (h2 : w.heap[j]? = some (.map es n)) : i ≠ j := fun e => by
  rw [e, h2] at h1
  injection h1 with h1
  cases h1
/-- a disk goes over to a world in which its blocks stand -/
theorem DiskAt.over {X Y : Nat → Prop} {w w' : World} {d b : Nat} {sw : Bool} {V : Int → Value} {D : DS} (h : DiskAt X w d b sw V D) (hs : w.heap.size ≤ w'.heap.size) (hm : ∀ k, k < w.heap.size → (k = d ∨ k = b ∨ X k) → w'.heap[k]? = w.heap[k]?) (hY : ∀ k, k < w.heap.size → X k → Y k) : DiskAt Y w' d b sw V D :=
  (h.imp (Y := fun k => X k ∧ Y k) fun k hk hx => ⟨hx, hY k hk hx⟩).frame hs (fun k hk hh => hm k hk (hh.imp id (Or.imp id And.left))) |>.imp fun k _ hx => hx.2
theorem BothAt.cell {base : Nat} {w : World} {q d b r : Nat} {D : DS} {o : Option WS} {P Q : Value} (h : BothAt base w q d b r D o P Q) :
    w.cell? ⟨q, 0, none⟩ = some (.pointer (some ⟨d, 0, none⟩)) ∧ w.cell? ⟨q, 1, none⟩ = some (.pointer (some ⟨r, 0, none⟩)) ∧ w.cell? ⟨q, 2, none⟩ = some P ∧ w.cell? ⟨q, 3, none⟩ = some Q ∧ ∀ j, w.frozen? ⟨q, j, none⟩ = false := by
  refine ⟨?_, ?_, ?_, ?_, fun j => free_row h.cells j⟩
  all_goals (rw [cell_row h.cells]; rfl)
/-- the disk, whatever logs there are -/
theorem Logs.disk {base : Nat} {w : World} {q d b r : Nat} {D : DS} {P Q : Value} {o : Option WS} (h : Logs base w q d b r D P Q o) : ∃ V, DiskAt (FreeB q r) w d b false V D := by
  cases o with
  | none => exact h.2.2
  | some W =>
    obtain ⟨p, x, v, -, -, -, -, -, -, V, hV⟩ := h
    exact ⟨V, hV.imp fun k _ hk => ⟨hk.1, hk.2.1⟩⟩
/-- all of it goes over to a world in which no old block is other -/
theorem BothAt.below {base : Nat} {w w' : World} {q d b r : Nat} {D : DS} {o : Option WS} {P Q : Value} (h : BothAt base w q d b r D o P Q) (hb : Below w.heap.size w w') : BothAt base w' q d b r D o P Q := by
  refine ⟨(hb.block q (heap_lt h.cells)).trans h.cells, h.ref.move (hb.block r (heap_lt h.ref.cells)), ?_, h.low.1, h.low.2.1, h.low.2.2.1, h.low.2.2.2.1, Nat.le_trans h.low.2.2.2.2 hb.size⟩
  have hl := h.logs
  cases o with
  | none => obtain ⟨h1, h2, V, h3⟩ := hl; exact ⟨h1, h2, V, h3.move hb⟩
  | some W => obtain ⟨p, x, v, h1, h2, h3, h4, h5, h6, V, h7⟩ := hl; exact ⟨p, x, v, h1, h2, (hb.block p (heap_lt h3)).trans h3, h4.below hb, h5, h6, V, h7.move hb⟩
theorem wopen_recs {D : DS} {W : WS} (h : (wOpen D).2.1 = some W) : W.recs = (wFirst D).recs ∧ (wOpen D).2.2 = 0 := by
  unfold wOpen at h ⊢
  split at h
  · cases h
  rename_i h1
  rw [if_neg h1]
  split at h
  · rename_i h2
    rw [if_pos h2]
    split at h
    · cases h
    rename_i h3
    rw [if_neg h3]
    injection h with h
    have h4 : (wRew D (wFirst D) (wFirst D).recs).2.2 = 0 := by simpa using h3
    subst h
    refine ⟨?_, rfl⟩
    generalize hR : wRew D (wFirst D) (wFirst D).recs = R at *
    unfold wRew at hR
    split at hR
    · subst hR; rfl
    split at hR
    · subst hR; rfl
    split at hR
    · subst hR; rfl
    simp only at hR
    split at hR
    · subst hR; rfl
    split at hR
    · subst hR; rfl
    split at hR
    · subst hR; rfl
    · subst hR; rfl
  · rename_i h2
    rw [if_neg h2]
    injection h with h
    subst h
    exact ⟨rfl, rfl⟩

abbrev SB (d b q r : Nat) : Nat → Prop := fun k => k = d ∨ k = b ∨ k = q ∨ k = r
/-- blocks that hold neither slices nor bytes -/
def Plain (w : World) (S : Nat → Prop) : Prop := ∀ g, S g → ∃ cs t, w.heap[g]? = some (.cells cs t (0, 0)) ∧ ∀ u ∈ cs.toList, (∀ A n c, u ≠ .slice A n c) ∧ ∀ z, u ≠ .int .u8 z
theorem cell_spot {w : World} {a : Addr} {v : Value} (h : w.cell? a = some v) : a.spot = none := by
  unfold World.cell? at h
  cases hs : a.spot with
  | none => rfl
  | some q => simp [hs] at h; split at h <;> cases h
theorem Plain.cell {w w' : World} {S : Nat → Prop} (hp : Plain w S) (ho : OnlyS S w w') {a : Addr} {v : Value} (h : w.cell? a = some v) (hv : (∃ A n c, v = .slice A n c) ∨ ∃ z, v = .int .u8 z) : w'.cell? a = some v := by
  have hb : ¬ S a.block := fun hs => by
    obtain ⟨cs, t, hg, hno⟩ := hp _ hs
    obtain ⟨g, off, sp⟩ := a
    have := cell_spot h
    simp only at this
    subst this
    rw [cell_row hg] at h
    have hm := hno v (by
      rw [Array.getElem?_eq_some_iff] at h
      obtain ⟨hl, e⟩ := h
      rw [← e]
      exact Array.getElem_mem_toList hl)
    rcases hv with ⟨A, n, c, e⟩ | ⟨z, e⟩
    · exact hm.1 A n c e
    · exact hm.2 z e
  have h1 := ho.block _ (World.block_lt_of_cell? w a h) hb
  unfold World.cell? at h ⊢
  rw [h1]; exact h
theorem RdL.plain {w w' : World} {S : Nat → Prop} (hp : Plain w S) (ho : OnlyS S w w') {B : Option Addr} {m : Nat} {ls : List (List UInt8)} (h : RdL w B m ls) : RdL w' B m ls := by
  refine ⟨h.1, fun h0 => ?_⟩
  obtain ⟨ad, e, hc⟩ := h.2 h0
  refine ⟨ad, e, fun j l hl => ?_⟩
  obtain ⟨A, c, h1, h2, h3⟩ := hc j l hl
  refine ⟨A, c, hp.cell ho h1 (.inl ⟨_, _, _, rfl⟩), h2, h3.1, fun hn => ?_⟩
  obtain ⟨ad2, e2, hc2⟩ := h3.2 hn
  refine ⟨ad2, e2, fun i u hu => hp.cell ho (hc2 i u hu) (.inr ?_)⟩
  obtain ⟨x, -, rfl⟩ := List.mem_map.1 (List.mem_of_getElem? hu)
  exact ⟨_, rfl⟩
theorem bopen_fin {base : Nat} {w4 : World} {q d b r : Nat} {D : DS} {P Q P' Q' : Value} {o : Option WS} (hq : w4.heap[q]? = some (bothCells d r P Q)) (hr : RefAt w4 r D) (hl : Logs base w4 q d b r D P' Q' o) (hlow : base ≤ q ∧ base ≤ d ∧ base ≤ b ∧ base ≤ r ∧ base ≤ w4.heap.size) :
    BothAt base ((w4.setCell ⟨q, 2, none⟩ P').setCell ⟨q, 3, none⟩ Q') q d b r D o P' Q' ∧ OnlyS (fun k => k = q) w4 ((w4.setCell ⟨q, 2, none⟩ P').setCell ⟨q, 3, none⟩ Q') := by
  have hqr : q ≠ r := cells_ne hq hr.cells (by decide)
  have hblk : ∀ k, k ≠ q → ((w4.setCell ⟨q, 2, none⟩ P').setCell ⟨q, 3, none⟩ Q').heap[k]? = w4.heap[k]? := fun k hk => by
    rw [Below.heap_setCell _ _ _ _ hk, Below.heap_setCell _ _ _ _ hk]
  have hsz : ((w4.setCell ⟨q, 2, none⟩ P').setCell ⟨q, 3, none⟩ Q').heap.size = w4.heap.size := by simp [World.setCell]
  have ho : OnlyS (fun k => k = q) w4 ((w4.setCell ⟨q, 2, none⟩ P').setCell ⟨q, 3, none⟩ Q') := ⟨rfl, rfl, rfl, by rw [hsz]; exact Nat.le_refl _, fun k _ hk => hblk k hk⟩
  refine ⟨⟨?_, hr.move (hblk r hqr.symm), ?_, hlow.1, hlow.2.1, hlow.2.2.1, hlow.2.2.2.1, by rw [hsz]; exact hlow.2.2.2.2⟩, ho⟩
  · rw [set_row (set_row hq 2 _) 3 _]; rfl
  · cases o with
    | none =>
      obtain ⟨h1, h2, V, h3⟩ := hl
      have hqd : q ≠ d := cells_ne hq h3.cells (by decide)
      have hqb : q ≠ b := map_ne hq h3.map
      exact ⟨h1, h2, V, h3.frame (by rw [hsz]; exact Nat.le_refl _) (fun k _ hh => hblk k (fun e => hh.elim (fun h => hqd (e.symm.trans h)) (fun h => h.elim (fun h => hqb (e.symm.trans h)) (fun h => h.1 e))))⟩
    | some W =>
      obtain ⟨p, x, v, h1, h2, h3, h4, h5, h6, V, h7⟩ := hl
      have hqd : q ≠ d := cells_ne hq h7.cells (by decide)
      have hqb : q ≠ b := map_ne hq h7.map
      have hqp : q ≠ p := cells_ne hq h3 (by decide)
      have hqx : q ≠ x := cells_ne hq h4.cells (by decide)
      have hqv := h4.ne hq (by decide)
      exact ⟨p, x, v, h1, h2, (hblk p hqp.symm).trans h3, h4.move ho hqx.symm (fun k hk e => hqv (by rw [← e]; exact hk.symm)), h5, h6, V, h7.frame (by rw [hsz]; exact Nat.le_refl _) (fun k _ hh => hblk k (fun e => hh.elim (fun h => hqd (e.symm.trans h)) (fun h => h.elim (fun h => hqb (e.symm.trans h)) (fun h => h.1 e))))⟩
theorem plain_ref {w : World} {r : Nat} {D : DS} (h : w.heap[r]? = some (refCells D)) : Plain w (fun k => k = r) := fun g hg => by
  subst hg
  exact ⟨_, _, h, fun u hu => by simp at hu; rcases hu with rfl | rfl | rfl | rfl | rfl | rfl | rfl | rfl <;> exact ⟨fun _ _ _ => by simp, fun _ => by simp⟩⟩
theorem plain_both {w : World} {q d r : Nat} {P Q : Value} (h : w.heap[q]? = some (bothCells d r P Q)) (hP : ∃ a, P = .pointer a) (hQ : ∃ a, Q = .pointer a) : Plain w (fun k => k = q) := fun g hg => by
  subst hg
  obtain ⟨a1, rfl⟩ := hP
  obtain ⟨a2, rfl⟩ := hQ
  exact ⟨_, _, h, fun u hu => by simp at hu; rcases hu with rfl | rfl | rfl | rfl <;> exact ⟨fun _ _ _ => by simp, fun _ => by simp⟩⟩
theorem Logs.ptr {base : Nat} {w : World} {q d b r : Nat} {D : DS} {P Q : Value} {o : Option WS} (h : Logs base w q d b r D P Q o) : (∃ a, P = .pointer a) ∧ ∃ a, Q = .pointer a := by
  cases o with
  | none => exact ⟨⟨_, h.1⟩, ⟨_, h.2.1⟩⟩
  | some W => obtain ⟨p, x, v, h1, h2, -⟩ := h; exact ⟨⟨_, h1⟩, ⟨_, h2⟩⟩

set_option maxHeartbeats 8000000 in
theorem bopen_calls (base q d b r : Nat) (D : DS) (o : Option WS) (P Q : Value) (w : World) (h : BothAt base w q d b r D o P Q) (hs : D.steps + 3 < 1099511627776) :
    Calls Try.prog 13 #[.pointer (some ⟨q, 0, none⟩)] w fun e w' => e = .returned (.bool true) ∧ (∃ P' Q', BothAt base w' q d b r (wOpen D).1 (wOpen D).2.1 P' Q') ∧ Below base w w' ∧ OnlyS (SB d b q r) w w' := by
  obtain ⟨V, hV⟩ := h.logs.disk
  obtain ⟨c0, c1, c2, c3, cf⟩ := h.cell
  have hqd : q ≠ d := cells_ne h.cells hV.cells (by decide)
  have hqb : q ≠ b := map_ne h.cells hV.map
  have hqr : q ≠ r := cells_ne h.cells h.ref.cells (by decide)
  have hrd : r ≠ d := cells_ne h.ref.cells hV.cells (by decide)
  have hrb : r ≠ b := map_ne h.ref.cells hV.map
  have hop := open_calls (X := FreeB q r) d b false V D w hV (fun k hk => ⟨by have := heap_lt h.cells; omega, by have := heap_lt h.ref.cells; omega⟩) hs
  have hlow := h.low
  have hptr := h.logs.ptr
  have hq := h.cells
  have hr := h.ref
  clear h hV
  go_enter Try.func13, Try.ntmps13
  go_wp2_with fail
  refine hop.mono ?_
  intro e w3 hpost
  clear hop
  rcases hpost with ⟨W, p, B, m, c, hW, rfl, ⟨V3, hD3⟩, hp3, hwp, hrl, hmc, ho3⟩ | ⟨hW, hE, rfl, ⟨V3, hD3⟩, ho3⟩
  · have hq3 := (ho3.block q (heap_lt hq) hqd hqb).trans hq
    have hr3 : RefAt w3 r D := hr.move (ho3.block r (heap_lt hr.cells) hrd hrb)
    have hbel3 : Below base w w3 := ho3.below hlow.2.1 hlow.2.2.1 hlow.2.2.2.2
    have c1' : w3.cell? ⟨q, 1, none⟩ = some (.pointer (some ⟨r, 0, none⟩)) := by rw [cell_row hq3]; rfl
    have hop := open5_calls r D w3 hr3 hs
    clear c0 c1 c2 c3 cf
    go_wp2_with fail
    refine hop.mono ?_
    intro e w4 hpost
    clear hop
    rcases hpost with ⟨W', x, v, hW', rfl, hD4, hx4, hwx, ho4⟩ | ⟨hW', -⟩
    rotate_left
    · rw [hW] at hW'; cases hW'
    rw [hW] at hW'
    injection hW' with hW'
    subst hW'
    have hpr : p ≠ r := cells_ne hp3 hr3.cells (by decide)
    have hq4 := (ho4.block q (heap_lt hq3) hqr hqr).trans hq3
    have hp4 := (ho4.block p (heap_lt hp3) hpr hpr).trans hp3
    have hov : ∀ k, v.ownBlock = some k → w3.heap.size ≤ k := fun k hk => (hx4.own.lt k hk).1
    have hD4' : DiskAt (FreeL q r p x v) w4 d b false V3 (wOpen D).1 := hD3.over ho4.size (fun k hk hh => by
      have hkr : k ≠ r := by
        rcases hh with h | h | h
        · exact fun e => hrd (e.symm.trans h)
        · exact fun e => hrb (e.symm.trans h)
        · exact h.1.2
      exact ho4.block k hk hkr hkr) (fun k hk hh => ⟨hh.1.1, hh.1.2, hh.2, by omega, fun e => by have := hov k e.symm; omega⟩)
    have hbase3 : base ≤ w3.heap.size := Nat.le_trans hlow.2.2.2.2 hbel3.size
    have hx4b : RWal w4 x r base W v := ⟨hx4.cells, own_lower hx4.own hbase3⟩
    have hrl4 := hrl.plain (plain_ref hr3.cells) (OnlyS.of_d (S := fun k => k = r) ho4 rfl rfl)
    have hbel4 : Below base w w4 := hbel3.trans (ho4.below hlow.2.2.2.1 hlow.2.2.2.1 hbase3)
    have hlogs : Logs base w4 q d b r (wOpen D).1 (.pointer (some ⟨p, 0, none⟩)) (.pointer (some ⟨x, 0, none⟩)) (some W) := ⟨p, x, v, rfl, rfl, hp4, hx4b, by omega, by omega, V3, hD4'⟩
    obtain ⟨hB5, ho5⟩ := bopen_fin hq4 hD4 hlogs ⟨hlow.1, hlow.2.1, hlow.2.2.1, hlow.2.2.2.1, Nat.le_trans hbase3 ho4.size⟩
    have hrl5 := hrl4.plain (plain_both hq4 hptr.1 hptr.2) ho5
    have hx5 := hx4b.move ho5 (fun e => cells_ne hx4.cells hq4 (by decide) e) (fun k hk e => hx4.ne hq4 (by decide) (by rw [← e]; exact hk.symm))
    have hbel5 := hbel4.trans (ho5.below (base := base) (fun k hk => by subst hk; exact hlow.1) (Nat.le_trans hbase3 ho4.size))
    obtain ⟨hwr, hwe⟩ := wopen_recs hW
    rw [← hwr] at hrl5
    obtain ⟨c2, c3, cf⟩ : w4.cell? ⟨q, 2, none⟩ = some P ∧ w4.cell? ⟨q, 3, none⟩ = some Q ∧ ∀ j, w4.frozen? ⟨q, j, none⟩ = false := ⟨by rw [cell_row hq4]; rfl, by rw [cell_row hq4]; rfl, fun j => free_row hq4 j⟩
    obtain ⟨A9, c9, rfl, hcc9, hrd9⟩ := own_rd hx5.own
    have a3 := (rwal_cell hx5.cells).2.2.2.1
    have hml : W.recs.length = m := hrl5.len
    rw [hml] at hrd9 a3
    have hn9 : m ≤ 140737488355328 := by
      have := (wFirst_bound hr.ok).2.1
      rw [hwr] at hml
      omega
    have hal := alike_calls B A9 m m c c9 W.recs W.recs _ hrl5 hrd9 hn9 hn9
    rw [decide_eq_true rfl] at hal
    rw [← hW] at hB5
    have HB := Lib.hid hB5
    have Hb5 := Lib.hid hbel5
    have Hos := Lib.hid (((OnlyS.of_d (S := SB d b q r) ho3 (.inl rfl) (.inr (.inl rfl))).trans (OnlyS.of_d ho4 (.inr (.inr (.inr rfl))) (.inr (.inr (.inr rfl))))).trans (⟨ho5.os, ho5.tape, ho5.output, ho5.size, fun k hk hs => ho5.block k hk (fun e => hs (.inr (.inr (.inl e))))⟩))
    clear ho3 hq3 hr3 hbel3 c1' hD4 hx4 ho4 hq4 hp4 hov hD4' hbase3 hx4b hrl4 hbel4 hlogs hB5 ho5 hrl5 hx5 hbel5 hwr hwe hrd9 hcc9 hrl hD3 hp3 hmc hml hr hq hptr hpr hW
    go_wp2_with fail
    refine hal.mono ?_
    rintro e w6 ⟨rfl, N, rfl⟩
    go_wp2_with fail
    go_ret
    exact ⟨rfl, ⟨_, _, HB.out.below (below_drewN (Below.refl _ _) _)⟩, below_drewN Hb5.out _, Hos.out.trans (OnlyS.of_below (below_drewN (Below.refl _ _) _))⟩
  · have hq3 := (ho3.block q (heap_lt hq) hqd hqb).trans hq
    have hr3 : RefAt w3 r D := hr.move (ho3.block r (heap_lt hr.cells) hrd hrb)
    have hbel3 : Below base w w3 := ho3.below hlow.2.1 hlow.2.2.1 hlow.2.2.2.2
    have c1' : w3.cell? ⟨q, 1, none⟩ = some (.pointer (some ⟨r, 0, none⟩)) := by rw [cell_row hq3]; rfl
    have hop := open5_calls r D w3 hr3 hs
    clear c0 c1 c2 c3 cf
    obtain ⟨E, hEe⟩ : ∃ E, (wOpen D).2.2 = E := ⟨_, rfl⟩
    rw [hEe] at hE ⊢
    have HEe := Lib.hid hEe
    clear hEe
    go_wp2_with fail
    refine hop.mono ?_
    intro e w4 hpost
    clear hop
    rcases hpost with ⟨W', x, v, hW', -⟩ | ⟨-, -, rfl, hD4, ho4⟩
    · rw [hW] at hW'; cases hW'
    rw [HEe.out]
    have hq4 := (ho4.block q (heap_lt hq3) hqr hqr).trans hq3
    have hD4' : DiskAt (FreeB q r) w4 d b false V3 (wOpen D).1 := hD3.frame ho4.size (fun k hk hh => by
      have hkr : k ≠ r := by
        rcases hh with h | h | h
        · exact fun e => hrd (e.symm.trans h)
        · exact fun e => hrb (e.symm.trans h)
        · exact h.2
      exact ho4.block k hk hkr hkr)
    have hbase3 : base ≤ w3.heap.size := Nat.le_trans hlow.2.2.2.2 hbel3.size
    have hbel4 : Below base w w4 := hbel3.trans (ho4.below hlow.2.2.2.1 hlow.2.2.2.1 hbase3)
    have hlogs : Logs base w4 q d b r (wOpen D).1 (.pointer none) (.pointer none) none := ⟨rfl, rfl, V3, hD4'⟩
    obtain ⟨hB5, ho5⟩ := bopen_fin hq4 hD4 hlogs ⟨hlow.1, hlow.2.1, hlow.2.2.1, hlow.2.2.2.1, Nat.le_trans hbase3 ho4.size⟩
    have hbel5 := hbel4.trans (ho5.below (base := base) (fun k hk => by subst hk; exact hlow.1) (Nat.le_trans hbase3 ho4.size))
    obtain ⟨c2, c3, cf⟩ : w4.cell? ⟨q, 2, none⟩ = some P ∧ w4.cell? ⟨q, 3, none⟩ = some Q ∧ ∀ j, w4.frozen? ⟨q, j, none⟩ = false := ⟨by rw [cell_row hq4]; rfl, by rw [cell_row hq4]; rfl, fun j => free_row hq4 j⟩
    rw [← hW] at hB5
    have HB := Lib.hid hB5
    have Hb5 := Lib.hid hbel5
    have Hos := Lib.hid (((OnlyS.of_d (S := SB d b q r) ho3 (.inl rfl) (.inr (.inl rfl))).trans (OnlyS.of_d ho4 (.inr (.inr (.inr rfl))) (.inr (.inr (.inr rfl))))).trans (⟨ho5.os, ho5.tape, ho5.output, ho5.size, fun k hk hs => ho5.block k hk (fun e => hs (.inr (.inr (.inl e))))⟩))
    have hee : (E != E) = false := by simp
    clear ho3 hq3 hr3 hbel3 c1' hD4 ho4 hq4 hD4' hbase3 hbel4 hlogs hB5 ho5 hbel5 hD3 hr hq hptr hW hE
    go_wp2_with fail
    go_ret
    exact ⟨rfl, ⟨_, _, HB.out⟩, Hb5.out, Hos.out⟩
end Go.Proofs.Ythcajaadbdiggaa
