/- A struct of four cells, stored into its variable. -/
import Derived.Test.YthcajaadbdiggaaSpoilK
import Derived.Deep.MidRow
namespace Go.Proofs.Ythcajaadbdiggaa
set_option maxRecDepth 10000
open Go.RowKit

theorem set4 {w : World} {g : Nat} {t : TypeId} {a0 a1 a2 a3 v0 v1 v2 v3 : Value} (h : w.heap[g]? = some (.cells #[a0, a1, a2, a3] t (0, 0))) :
    (w.setCells g 0 [v0, v1, v2, v3]).heap[g]? = some (.cells #[v0, v1, v2, v3] t (0, 0)) ∧ OnlyBlk (some g) w (w.setCells g 0 [v0, v1, v2, v3]) := by
  have e : w.setCells g 0 [v0, v1, v2, v3] = (((w.setCell ⟨g, 0, none⟩ v0).setCell ⟨g, 1, none⟩ v1).setCell ⟨g, 2, none⟩ v2).setCell ⟨g, 3, none⟩ v3 := rfl
  rw [e]
  refine ⟨?_, ((((OnlyBlk.refl _ w).set g 0 v0 rfl).set g 1 v1 rfl).set g 2 v2 rfl).set g 3 v3 rfl⟩
  rw [set_row (set_row (set_row (set_row h _ _) _ _) _ _)]
  simp
theorem there4 {w : World} {g : Nat} {t : TypeId} {a0 a1 a2 a3 : Value} (h : w.heap[g]? = some (.cells #[a0, a1, a2, a3] t (0, 0))) : w.there g 0 4 := by
  intro j hj
  have h1 := cell_row h j
  have h2 := free_row h j
  rw [Nat.zero_add]
  refine ⟨?_, h2⟩
  rw [h1]
  match j, hj with
  | 0, _ => rfl
  | 1, _ => rfl
  | 2, _ => rfl
  | 3, _ => rfl
theorem wpList_store4 {P : Program} {ops : Array Oper} {rest : List Oper} {op : Oper} {a : Act} {w : World} {Q : Exit → Act → World → Prop} (hgd : op.guard = none) (ty : TypeId) (x y : Operand) (ho : op.op = .store ty x y)
    (g : Nat) (v0 v1 v2 v3 : Value) (hx : a.eval x = .pointer (some ⟨g, 0, none⟩)) (hy : a.eval y = .agg #[v0, v1, v2, v3])
    {t : TypeId} {a0 a1 a2 a3 : Value} (hg : w.heap[g]? = some (.cells #[a0, a1, a2, a3] t (0, 0))) (hi : (P.info? ty).map (·.size) = some 4) (h1 : v0.oneCell' = true ∧ v1.oneCell' = true ∧ v2.oneCell' = true ∧ v3.oneCell' = true)
    (h : ∀ w', w'.heap[g]? = some (.cells #[v0, v1, v2, v3] t (0, 0)) → OnlyBlk (some g) w w' → wpList P ops Q rest (a.put op.dst undef) w') : wpList P ops Q (op :: rest) a w :=
  wpList_store_mid hgd ty x y ho g 0 #[v0, v1, v2, v3] hx hy (there4 hg) hi (by simp [h1]) (h _ (set4 hg).1 (set4 hg).2)
end Go.Proofs.Ythcajaadbdiggaa
