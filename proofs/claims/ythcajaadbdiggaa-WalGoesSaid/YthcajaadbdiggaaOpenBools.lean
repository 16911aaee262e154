/- An argument of booleans, opened to a list. -/
import Derived.Test.YthcajaadbdiggaaOpen
namespace Go.Proofs.Ythcajaadbdiggaa
open Go.ChangeShapes Go.WideShapes Go.ChangeAt Go.RowKit Go.Deep

section
variable {H : Type} {enc : TypeId × Value → H} {P : Program} {w : World} {base : Nat} {spare : Nat → Bool} {held : Bool}
theorem open_bools {t e : TypeId} {fuel : Nat} {cs : List Value} {x : DataW H × List MemPlace} (ht : P.underlying t = some (.slice e)) (he : P.underlying e = some .bool) (hc : P.cellsOf e = 1)
    (h : DataW.trod enc P w base spare held fuel t cs = some x) :
    ∃ A n c, ∃ zs : List Bool, cs = [.slice A n c] ∧ Rd w A n (zs.map Value.bool) ∧ n ≤ c ∧ c ≤ maxLen ∧ LenIs x.1 n := by
  rcases open_slice ht h with ⟨rfl, rfl⟩ | ⟨a, len, cap, m, n, D, Pl, rfl, _, hl, hm, hmm, rfl, hi⟩
  · exact ⟨none, 0, 0, [], rfl, Rd.none_ _ _, Nat.le_refl _, by decide, .inl ⟨rfl, rfl⟩⟩
  · have hlm : len ≤ m := by rw [hmm]; split <;> omega
    obtain ⟨zs, hzs, hp⟩ := choose_list (α := Bool) len (fun i z => w.cell? (a.add i) = some (.bool z)) (fun i hi' => by
      obtain ⟨cs', hc1, ht1⟩ := hi i (by omega)
      obtain ⟨z, rfl, _⟩ := DataW.trod_bool he ht1
      rw [hc] at hc1
      obtain ⟨_, _, hat⟩ := World.cells?_some hc1
      have h0 := hat 0 (by omega)
      refine ⟨z, ?_⟩
      rw [Nat.mul_one] at h0
      simpa [add_add] using h0)
    refine ⟨some a, len, cap, zs, rfl, ⟨by simpa using hzs, fun _ => ⟨a, rfl, fun j u hu => ?_⟩⟩, hl, hm, .inr ⟨_, _, rfl, by simp⟩⟩
    rw [List.getElem?_map] at hu
    cases hz : zs[j]? with
    | none => rw [hz] at hu; cases hu
    | some z => rw [hz] at hu; injection hu with hu; subst hu; exact hp j z hz
end
end Go.Proofs.Ythcajaadbdiggaa
