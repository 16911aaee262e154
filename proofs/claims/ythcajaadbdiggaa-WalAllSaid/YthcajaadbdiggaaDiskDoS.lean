/- Only some blocks are other. -/
import Derived.Test.YthcajaadbdiggaaSpoilK
import Derived.Test.YthcajaadbdiggaaDisk
namespace Go.Proofs.Ythcajaadbdiggaa
open Go.RowKit

/-- nothing but some blocks is other, and blocks are new -/
structure OnlyS (S : Nat → Prop) (w w' : World) : Prop where
  os : w'.os = w.os
  tape : w'.tape = w.tape
  output : w'.output = w.output
  size : w.heap.size ≤ w'.heap.size
  block : ∀ k, k < w.heap.size → ¬ S k → w'.heap[k]? = w.heap[k]?
theorem OnlyS.refl (S : Nat → Prop) (w : World) : OnlyS S w w := ⟨rfl, rfl, rfl, Nat.le_refl _, fun _ _ _ => rfl⟩
theorem OnlyS.trans {S : Nat → Prop} {u v w : World} (h : OnlyS S u v) (k : OnlyS S v w) : OnlyS S u w :=
  ⟨k.os.trans h.os, k.tape.trans h.tape, k.output.trans h.output, Nat.le_trans h.size k.size, fun j hj h1 => (k.block j (Nat.lt_of_lt_of_le hj h.size) h1).trans (h.block j hj h1)⟩
theorem OnlyS.of_below {S : Nat → Prop} {w w' : World} (h : Below w.heap.size w w') : OnlyS S w w' := ⟨h.os, h.tape, h.output, h.size, fun k hk _ => h.block k hk⟩
theorem OnlyS.of_d {S : Nat → Prop} {d b : Nat} {w w' : World} (h : OnlyD d b w w') (hd : S d) (hb : S b) : OnlyS S w w' :=
  ⟨h.os, h.tape, h.output, h.size, fun k hk hs => h.block k hk (fun e => hs (e ▸ hd)) (fun e => hs (e ▸ hb))⟩
theorem OnlyS.of_blk {S : Nat → Prop} {g : Nat} {w w' : World} (h : OnlyBlk (some g) w w') (hg : S g) : OnlyS S w w' :=
  ⟨h.os, h.tape, h.output, Nat.le_of_eq h.size.symm, fun k _ hs => h.block k (fun e => by injection e with e; subst e; exact hs hg)⟩
theorem OnlyS.below {S : Nat → Prop} {base : Nat} {w w' : World} (h : OnlyS S w w') (hS : ∀ k, S k → base ≤ k) (hs : base ≤ w.heap.size) : Below base w w' :=
  ⟨h.os, h.tape, h.output, h.size, fun k hk => h.block k (by omega) (fun hk2 => by have := hS k hk2; omega)⟩


end Go.Proofs.Ythcajaadbdiggaa
