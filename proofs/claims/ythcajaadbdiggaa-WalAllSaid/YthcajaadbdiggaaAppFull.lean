/- Appending to a slice without spare room. -/
import Derived.Test.YthcajaadbdiggaaOwn
import Derived.ArgAppend
namespace Go.Proofs.Ythcajaadbdiggaa
open Go.RowKit

theorem run_app_full {P : Program} (w : World) (t ty e : TypeId) (z : Value) (bytes : Nat) (ht : P.underlying t = some (.slice e)) (hi : (P.info? e).map (fun i => (i.zero, i.size, i.bytes)) = some (some z, 1, bytes)) (hzs : z.cells.size = 1) (hb0 : 0 < bytes)
    {A B : Option Addr} {n m c : Nat} {olds news : List Value} (ho : Rd w A n olds) (hr : Rd w B m news) (h1 : ∀ u ∈ news, u.oneCell' = true) (hb : (n + m) * bytes ≤ 140737488355328) :
    ∃ A' c' w', (Builtin.append_ #[t, t] ty #[.slice A n n, .slice B m c]).run P w = .ok (.slice A' (n + m) c') w' ∧ n + m ≤ c' ∧ Rd w' A' (n + m) (olds ++ news) ∧ Below w.heap.size w w' ∧
      (∀ ad, A' = some ad → A = some ad ∨ (w.heap.size ≤ ad.block ∧ ad.block < w'.heap.size)) := by
  obtain ⟨i, hi0, hz0, hz1, hz2⟩ := info_parts hi
  have hnm : n + m ≤ (n + m) * bytes := Nat.le_mul_of_pos_right _ hb0
  rcases Nat.eq_zero_or_pos m with h0 | h0
  · subst h0
    have hn : news = [] := List.eq_nil_of_length_eq_zero (by simpa using hr.1)
    subst hn
    refine ⟨A, n, w, ?_, Nat.le_refl _, by simpa using ho, Below.refl _ _, fun ad e => .inl e⟩
    have hfc : (Builtin.firstCells i.size 0 (.slice B 0 c)).run P w = .ok #[] w := by
      cases B with
      | none => simp [Builtin.firstCells]
      | some a => exact run_firstCells_some (P := P) w i.size 0 a 0 c [] (by simp) (by simp)
    cases A <;> simp [Builtin.append_, run_underlying ht, sizeOf, typeInfo, hi0, Builtin.lenOf, hfc, storeCells]
  · obtain ⟨ad, rfl, hc⟩ := hr.2 h0
    have hfin : ∀ (v' : Value) (w' : World), w'.ownsRow w.heap.size e 1 v' (n + m) (olds ++ news) → w.grownBy w' none → ∃ A' c', v' = .slice A' (n + m) c' ∧ n + m ≤ c' ∧ Rd w' A' (n + m) (olds ++ news) ∧ Below w.heap.size w w' ∧
      (∀ ad, A' = some ad → A = some ad ∨ (w.heap.size ≤ ad.block ∧ ad.block < w'.heap.size)) := by
      intro v' w' hown hg
      obtain ⟨A', c', rfl, hc', hrd⟩ := own_rd hown
      refine ⟨A', c', rfl, hc', hrd, ⟨hg.os, hg.tape, hg.output, hg.size, fun k hk => hg.block k hk (by simp)⟩, fun ad e => .inr ?_⟩
      subst e
      exact hown.lt _ rfl
    cases A with
    | none =>
      have hn0 : n = 0 := by
        rcases Nat.eq_zero_or_pos n with h | h
        · exact h
        · obtain ⟨_, h, _⟩ := ho.2 h; cases h
      subst hn0
      obtain rfl : olds = [] := List.eq_nil_of_length_eq_zero (by simpa using ho.1)
      obtain ⟨v', w', hrun, r1, r2, _⟩ := run_append_own (P := P) w w.heap.size t ty e i z 1 bytes ht hi0 hz0 hz1 hz2 hzs (by decide) (.slice none 0 0) 0 [] (World.ownsRow_nil w _ e 1) ad m c news (by rw [hr.1]; simp) hc h1 (by unfold maxLen; omega) hb (Nat.le_refl _)
      obtain ⟨A', c', rfl, h2⟩ := hfin v' w' r1 (by simpa [Value.ownBlock] using r2)
      exact ⟨A', c', w', hrun, h2⟩
    | some b =>
      have holds : ∀ j u, olds[j]? = some u → w.cell? (b.add j) = some u := by
        intro j u hu
        have hj := (List.getElem?_eq_some_iff.1 hu).1
        obtain ⟨b', e, hc2⟩ := ho.2 (by have := ho.1; omega)
        injection e with e
        subst e
        exact hc2 j u hu
      obtain ⟨v', w', hrun, r1, r2⟩ := run_append_arg_grows (P := P) w t ty e i z 1 bytes ht hi0 hz0 hz1 hz2 hzs (by decide) b n n olds (by rw [ho.1]; simp) holds ad m c news (by rw [hr.1]; simp) hc (by omega) (by unfold maxLen; omega) hb
      obtain ⟨A', c', rfl, h2⟩ := hfin v' w' r1 r2
      exact ⟨A', c', w', hrun, h2⟩

theorem wpList_app_full {P : Program} {w : World} {ops : Array Oper} {rest : List Oper} {o : Oper} {a : Act} {Q : Exit → Act → World → Prop} (hgd : o.guard = none) (s x : Operand) (t : TypeId)
    (hop : o.op = .call { callee := .builtin .append, args := #[s, x], argTypes := #[t, t] }) (e : TypeId) (z : Value) (bytes : Nat) (ht : P.underlying t = some (.slice e)) (hi : (P.info? e).map (fun i => (i.zero, i.size, i.bytes)) = some (some z, 1, bytes)) (hzs : z.cells.size = 1) (hb0 : 0 < bytes)
    {A B : Option Addr} {n m c : Nat} {olds news : List Value} (hs : a.eval s = .slice A n n) (ho : Rd w A n olds) (hx : a.eval x = .slice B m c) (hr : Rd w B m news) (h1 : ∀ u ∈ news, u.oneCell' = true) (hb : (n + m) * bytes ≤ 140737488355328)
    (h : ∀ A' c' w', n + m ≤ c' → Rd w' A' (n + m) (olds ++ news) → Below w.heap.size w w' → (∀ ad, A' = some ad → A = some ad ∨ (w.heap.size ≤ ad.block ∧ ad.block < w'.heap.size)) → wpList P ops Q rest (a.put o.dst (.slice A' (n + m) c')) w') : wpList P ops Q (o :: rest) a w := by
  refine wpList_plain hgd fun K hK => ?_
  obtain ⟨A', c', w', hrun, r1, r2, r3, r4⟩ := run_app_full w t o.type e z bytes ht hi hzs hb0 (c := c) ho hr h1 hb
  unfold Oper.wp execOp
  simp only [hop, resolve, invoke, builtin, Sem.run_bind, Sem.run_pure, Result.andThen_ok, List.map_toArray, List.map_cons, List.map_nil, hs, hx, hrun]
  exact hK _ _ (h A' c' w' r1 r2 r3 r4)
end Go.Proofs.Ythcajaadbdiggaa
