/- The struct of a log and the document's, half way through an operation. -/
import Derived.Test.YthcajaadbdiggaaWalBoth
import Derived.Test.YthcajaadbdiggaaWalInv
import Derived.Test.YthcajaadbdiggaaOpsArg5
namespace Go.Proofs.Ythcajaadbdiggaa
set_option maxRecDepth 1000000
open Go.RowKit

/-- the disk is on, the document's still behind -/
structure Mid (base : Nat) (w : World) (q d b r : Nat) (D0 D1 : DS) (o : Option WS) (P Q : Value) : Prop where
  cells : w.heap[q]? = some (bothCells d r P Q)
  ref : RefAt w r D0
  logs : Logs base w q d b r D1 P Q o
  low : base ≤ q ∧ base ≤ d ∧ base ≤ b ∧ base ≤ r ∧ base ≤ w.heap.size
theorem BothAt.mid {base : Nat} {w : World} {q d b r : Nat} {D : DS} {o : Option WS} {P Q : Value} (h : BothAt base w q d b r D o P Q) : Mid base w q d b r D D o P Q := ⟨h.cells, h.ref, h.logs, h.low⟩
theorem Mid.both {base : Nat} {w : World} {q d b r : Nat} {D : DS} {o : Option WS} {P Q : Value} (h : Mid base w q d b r D D o P Q) : BothAt base w q d b r D o P Q := ⟨h.cells, h.ref, h.logs, h.low⟩
theorem own_ne_map {w : World} {base g : Nat} {e : TypeId} {size n : Nat} {v : Value} {xs : List Value} {es : Array MapEntry} {m : Nat} (h : w.ownsRow base e size v n xs) (hg : w.heap[g]? = some (.map es m)) : some g ≠ v.ownBlock := fun e => by
  obtain ⟨cur, hc⟩ := own_blk5 h e.symm
  rw [hg] at hc
  injection hc with hc
  cases hc
/-- the blocks that an operation of the disk writes are none of the others -/
theorem Mid.opDisk {base : Nat} {w : World} {q d b r : Nat} {D0 D1 : DS} {o : Option WS} {P Q : Value} (h : Mid base w q d b r D0 D1 o P Q) :
    ∃ X V, DiskAt X w d b false V D1 ∧ (∀ k, w.heap.size ≤ k → X k) ∧ (q ≠ d ∧ q ≠ b) ∧ (r ≠ d ∧ r ≠ b) ∧ ∀ w' V' D', DiskAt X w' d b false V' D' → OnlyD d b w w' → Mid base w' q d b r D0 D' o P Q ∧ Below base w w' := by
  have hlq := heap_lt h.cells
  have hlr := heap_lt h.ref.cells
  have hl := h.logs
  cases o with
  | none =>
    obtain ⟨h1, h2, V, h3⟩ := hl
    have hqd : q ≠ d ∧ q ≠ b := ⟨cells_ne h.cells h3.cells (by decide), map_ne h.cells h3.map⟩
    have hrd : r ≠ d ∧ r ≠ b := ⟨cells_ne h.ref.cells h3.cells (by decide), map_ne h.ref.cells h3.map⟩
    exact ⟨_, V, h3, fun k hk => ⟨by omega, by omega⟩, hqd, hrd, fun w' V' D' hD ho => ⟨⟨(ho.block q hlq hqd.1 hqd.2).trans h.cells, h.ref.move (ho.block r hlr hrd.1 hrd.2), ⟨h1, h2, V', hD⟩, h.low.1, h.low.2.1, h.low.2.2.1, h.low.2.2.2.1, Nat.le_trans h.low.2.2.2.2 ho.size⟩, ho.below h.low.2.1 h.low.2.2.1 h.low.2.2.2.2⟩⟩
  | some W =>
    obtain ⟨p, x, v, h1, h2, h3, h4, h5, h6, V, h7⟩ := hl
    have hqd : q ≠ d ∧ q ≠ b := ⟨cells_ne h.cells h7.cells (by decide), map_ne h.cells h7.map⟩
    have hrd : r ≠ d ∧ r ≠ b := ⟨cells_ne h.ref.cells h7.cells (by decide), map_ne h.ref.cells h7.map⟩
    have hpd : p ≠ d ∧ p ≠ b := ⟨cells_ne h3 h7.cells (by decide), map_ne h3 h7.map⟩
    have hxd : x ≠ d ∧ x ≠ b := ⟨cells_ne h4.cells h7.cells (by decide), map_ne h4.cells h7.map⟩
    have hvd := h4.ne h7.cells (by decide)
    have hvb := own_ne_map h4.own h7.map
    have hlp := heap_lt h3
    have hlx := heap_lt h4.cells
    refine ⟨_, V, h7, fun k hk => ⟨by omega, by omega, by omega, by omega, fun e => by have := (h4.own.lt k e.symm).2; omega⟩, hqd, hrd, fun w' V' D' hD ho => ⟨⟨(ho.block q hlq hqd.1 hqd.2).trans h.cells, h.ref.move (ho.block r hlr hrd.1 hrd.2), ⟨p, x, v, h1, h2, (ho.block p hlp hpd.1 hpd.2).trans h3, ?_, h5, h6, V', hD⟩, h.low.1, h.low.2.1, h.low.2.2.1, h.low.2.2.2.1, Nat.le_trans h.low.2.2.2.2 ho.size⟩, ho.below h.low.2.1 h.low.2.2.1 h.low.2.2.2.2⟩⟩
    exact h4.move (OnlyS.of_d (S := fun k => k = d ∨ k = b) ho (.inl rfl) (.inr rfl)) (fun e => e.elim hxd.1 hxd.2) (fun k hk e => e.elim (fun e => hvd (by rw [← e]; exact hk.symm)) (fun e => hvb (by rw [← e]; exact hk.symm)))
theorem Mid.opRef {base : Nat} {w w' : World} {q d b r : Nat} {D0 D1 D' : DS} {o : Option WS} {P Q : Value} (h : Mid base w q d b r D0 D1 o P Q) (hR : RefAt w' r D') (ho : OnlyD r r w w') : Mid base w' q d b r D' D1 o P Q ∧ Below base w w' := by
  have hqr : q ≠ r := cells_ne h.cells h.ref.cells (by decide)
  refine ⟨⟨(ho.block q (heap_lt h.cells) hqr hqr).trans h.cells, hR, ?_, h.low.1, h.low.2.1, h.low.2.2.1, h.low.2.2.2.1, Nat.le_trans h.low.2.2.2.2 ho.size⟩, ho.below h.low.2.2.2.1 h.low.2.2.2.1 h.low.2.2.2.2⟩
  have hl := h.logs
  cases o with
  | none =>
    obtain ⟨h1, h2, V, h3⟩ := hl
    have hrd : r ≠ d ∧ r ≠ b := ⟨cells_ne h.ref.cells h3.cells (by decide), map_ne h.ref.cells h3.map⟩
    exact ⟨h1, h2, V, h3.frame ho.size (fun k hk hh => (fun hkr => ho.block k hk hkr hkr) (fun e => hh.elim (fun h => hrd.1 (e.symm.trans h)) (fun h => h.elim (fun h => hrd.2 (e.symm.trans h)) (fun h => h.2 e))))⟩
  | some W =>
    obtain ⟨p, x, v, h1, h2, h3, h4, h5, h6, V, h7⟩ := hl
    have hrd : r ≠ d ∧ r ≠ b := ⟨cells_ne h.ref.cells h7.cells (by decide), map_ne h.ref.cells h7.map⟩
    have hpr : p ≠ r := cells_ne h3 h.ref.cells (by decide)
    exact ⟨p, x, v, h1, h2, (ho.block p (heap_lt h3) hpr hpr).trans h3, h4.move (OnlyS.of_d (S := fun k => k = r) ho rfl rfl) (h4.x_ne_r h.ref) (fun k hk => (h4.own_ne h.ref k hk).1), h5, h6, V, h7.frame ho.size (fun k hk hh => (fun hkr => ho.block k hk hkr hkr) (fun e => hh.elim (fun h => hrd.1 (e.symm.trans h)) (fun h => h.elim (fun h => hrd.2 (e.symm.trans h)) (fun h => h.2.1 e))))⟩
theorem Mid.below {base : Nat} {w w' : World} {q d b r : Nat} {D0 D1 : DS} {o : Option WS} {P Q : Value} (h : Mid base w q d b r D0 D1 o P Q) (hb : Below w.heap.size w w') : Mid base w' q d b r D0 D1 o P Q := by
  refine ⟨(hb.block q (heap_lt h.cells)).trans h.cells, h.ref.move (hb.block r (heap_lt h.ref.cells)), ?_, h.low.1, h.low.2.1, h.low.2.2.1, h.low.2.2.2.1, Nat.le_trans h.low.2.2.2.2 hb.size⟩
  have hl := h.logs
  cases o with
  | none => obtain ⟨h1, h2, V, h3⟩ := hl; exact ⟨h1, h2, V, h3.move hb⟩
  | some W => obtain ⟨p, x, v, h1, h2, h3, h4, h5, h6, V, h7⟩ := hl; exact ⟨p, x, v, h1, h2, (hb.block p (heap_lt h3)).trans h3, h4.below hb, h5, h6, V, h7.move hb⟩
abbrev opV5 (o : Op5) (B : Option Addr) (cb : Nat) (C : Option Addr) (cl : Nat) (K : Option Addr) (ck : Nat) : Array Value := #[.int .i64 o.kind, .int .i64 o.n, .bool o.made, .slice B o.b.length cb, .slice C o.l.length cl, .slice K o.keep.length ck]
/-- what do leaves -/
def DoPost (base : Nat) (w : World) (q d b r : Nat) (k5 : Nat) (e : Ending) (w' : World) : Prop :=
  e = .returned (.bool true) ∧ (∃ D' o' P' Q', BothAt base w' q d b r D' o' P' Q' ∧ Inv5 D' o' (k5 + 1)) ∧ Below base w w'
/-- the operation's rows, readable as long as the blocks below the base stand -/
def OpRd (base : Nat) (w : World) (o : Op5) (B : Option Addr) (cb : Nat) (C : Option Addr) (cl : Nat) (K : Option Addr) (ck : Nat) : Prop :=
  ∀ U, Below base w U → Rd U B o.b.length (ub o.b) ∧ o.b.length ≤ cb ∧ RdL U C o.l.length o.l ∧ o.l.length ≤ cl ∧ Rd U K o.keep.length (o.keep.map (Value.int .i64)) ∧ o.keep.length ≤ ck
end Go.Proofs.Ythcajaadbdiggaa
