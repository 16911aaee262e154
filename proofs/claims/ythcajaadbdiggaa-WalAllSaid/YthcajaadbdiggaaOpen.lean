/- Arguments opened to lists. -/
import Derived.Test.YthcajaadbdiggaaBase
import Derived.ProofKit
import Derived.OpenShut
import Derived.ShutString
import Derived.ChangeOld
import Derived.SizedLaws
import Derived.Deep.Slices
namespace Go.Proofs.Ythcajaadbdiggaa
open Go.ChangeShapes Go.WideShapes Go.ChangeAt Go.RowKit Go.Deep

section
variable {H : Type} {enc : TypeId × Value → H} {P : Program} {w : World} {base : Nat} {spare : Nat → Bool} {held : Bool}

/-- a slice's datum has its length -/
def LenIs (d : DataW H) (n : Nat) : Prop := (d = .nil ∧ n = 0) ∨ ∃ elems rest, d = .slice elems rest ∧ elems.length = n

theorem sized_len {n : Nat} {t e : TypeId} {d : DataW H} {ts : List TypeId} {ds : List (DataW H)} {j : Nat} (hsz : (DataW.weightsEach P ts ds).all (· ≤ reachBytes) = true) (ht : ts[j]? = some t) (hd : ds[j]? = some d) (hu : P.underlying t = some (.slice e)) {B : Nat} (hB : P.bytesOf e = B) (h : LenIs d n) : n * B ≤ 140737488351232 := by
  rcases h with ⟨_, rfl⟩ | ⟨elems, rest, rfl, rfl⟩
  · simp
  · have z := sized_slice hsz ht hd hu
    rw [hB] at z
    exact Nat.le_trans (Nat.mul_le_mul_right _ (Nat.le_add_right _ _)) z

theorem open_nums {t e : TypeId} {k : IntKind} {fuel : Nat} {cs : List Value} {x : DataW H × List MemPlace} (ht : P.underlying t = some (.slice e)) (he : P.underlying e = some (.int k)) (hc : P.cellsOf e = 1)
    (h : DataW.trod enc P w base spare held fuel t cs = some x) :
    ∃ A n c, ∃ zs : List Int, cs = [.slice A n c] ∧ Rd w A n (zs.map (Value.int k)) ∧ (∀ z ∈ zs, (Lit.int k z).wf = true) ∧ n ≤ c ∧ c ≤ maxLen ∧ LenIs x.1 n := by
  rcases open_ints ht he hc h with ⟨rfl, rfl⟩ | ⟨a, len, cap, zs, rfl, _, hl, hm, hz, rfl, hcell, hwf⟩
  · exact ⟨none, 0, 0, [], rfl, Rd.none_ _ _, (fun z hz => by simp at hz), Nat.le_refl _, by decide, .inl ⟨rfl, rfl⟩⟩
  · have hlz : len ≤ zs.length := by rw [hz]; split <;> omega
    refine ⟨some a, len, cap, zs.take len, rfl, ⟨by simp; omega, fun _ => ⟨a, rfl, fun j u hu => ?_⟩⟩, fun z hz => hwf z (List.mem_of_mem_take hz), hl, hm, .inr ⟨_, _, rfl, by simp [lits]; omega⟩⟩
    rw [List.getElem?_map] at hu
    have hjl : j < len := by
      rcases Nat.lt_or_ge j len with h' | h'
      · exact h'
      · rw [List.getElem?_eq_none (by simp; omega)] at hu; cases hu
    rw [List.getElem?_take_of_lt hjl] at hu
    rw [hcell j (by omega), ← hu, List.getD_eq_getElem?_getD, List.getElem?_eq_getElem (by omega)]
    rfl

theorem wf_u8 {n : Int} (h : (Lit.int .u8 n).wf = true) : 0 ≤ n ∧ n < 256 := by
  have := bounds_u8 h
  omega

theorem to_ub : ∀ zs : List Int, (∀ z ∈ zs, (Lit.int .u8 z).wf = true) → zs.map (Value.int .u8) = ub (zs.map fun z => UInt8.ofNat z.toNat)
  | [], _ => rfl
  | z :: zs, h => by
    have hz := wf_u8 (h z (by simp))
    have ih := to_ub zs (fun y hy => h y (by simp [hy]))
    simp only [ub, List.map_cons, List.map_map] at ih ⊢
    rw [ih]
    congr 2
    have : z.toNat % 256 = z.toNat := Nat.mod_eq_of_lt (by omega)
    simp [this]; omega

theorem open_bytes {t e : TypeId} {fuel : Nat} {cs : List Value} {x : DataW H × List MemPlace} (ht : P.underlying t = some (.slice e)) (he : P.underlying e = some (.int .u8)) (hc : P.cellsOf e = 1)
    (h : DataW.trod enc P w base spare held fuel t cs = some x) :
    ∃ A n c xs, cs = [.slice A n c] ∧ Rd w A n (ub xs) ∧ n ≤ c ∧ c ≤ maxLen ∧ LenIs x.1 n := by
  obtain ⟨A, n, c, zs, h1, h2, h3, h4⟩ := open_nums ht he hc h
  rw [to_ub zs h3] at h2
  exact ⟨A, n, c, _, h1, h2, h4⟩

theorem choose_list {α : Type} (n : Nat) (p : Nat → α → Prop) (h : ∀ i, i < n → ∃ x, p i x) : ∃ l : List α, l.length = n ∧ ∀ i x, l[i]? = some x → p i x := by
  induction n with
  | zero => exact ⟨[], rfl, fun i x hx => by simp at hx⟩
  | succ n ih =>
    obtain ⟨l, hl, hp⟩ := ih (fun i hi => h i (by omega))
    obtain ⟨x, hx⟩ := h n (by omega)
    refine ⟨l ++ [x], by simp [hl], fun i y hy => ?_⟩
    rcases Nat.lt_or_ge i l.length with hi | hi
    · rw [List.getElem?_append_left hi] at hy; exact hp i y hy
    · rw [List.getElem?_append_right hi] at hy
      have e0 : i - l.length = 0 := by
        rcases Nat.eq_zero_or_pos (i - l.length) with h0 | h0
        · exact h0
        · rw [List.getElem?_eq_none (by simp; omega)] at hy; cases hy
      rw [e0] at hy
      injection hy with hy
      subst hy
      have : i = n := by omega
      subst this; exact hx

theorem open_bytess {t s e : TypeId} {fuel : Nat} {cs : List Value} {x : DataW H × List MemPlace} (ht : P.underlying t = some (.slice s)) (hs : P.underlying s = some (.slice e)) (he : P.underlying e = some (.int .u8)) (hc : P.cellsOf e = 1) (hcs : P.cellsOf s = 1)
    (h : DataW.trod enc P w base spare held fuel t cs = some x) :
    ∃ A n c ls, cs = [.slice A n c] ∧ RdL w A n ls ∧ n ≤ c ∧ c ≤ maxLen ∧ LenIs x.1 n := by
  rcases open_slice ht h with ⟨rfl, rfl⟩ | ⟨a, len, cap, m, n, D, Pl, rfl, _, hl, hm, hmm, rfl, hi⟩
  · exact ⟨none, 0, 0, [], rfl, ⟨rfl, fun h => absurd h (by omega)⟩, Nat.le_refl _, by decide, .inl ⟨rfl, rfl⟩⟩
  · have hlm : len ≤ m := by rw [hmm]; split <;> omega
    obtain ⟨ls, hls, hp⟩ := choose_list (α := List UInt8) len (fun i l => ∃ B c, w.cell? (a.add i) = some (.slice B l.length c) ∧ l.length ≤ c ∧ Rd w B l.length (ub l)) (fun i hi' => by
      obtain ⟨cs', hc1, ht1⟩ := hi i (by omega)
      obtain ⟨A, n', c, xs, rfl, hr, hnc, _, _⟩ := open_bytes hs he hc ht1
      rw [hcs] at hc1
      obtain ⟨_, _, hat⟩ := World.cells?_some hc1
      have h0 := hat 0 (by omega)
      have hlen := hr.len
      subst hlen
      refine ⟨xs, A, c, ?_, hnc, hr⟩
      rw [Nat.mul_one] at h0
      simpa [add_add] using h0)
    exact ⟨some a, len, cap, ls, rfl, ⟨hls, fun _ => ⟨a, rfl, fun j l hl => hp j l hl⟩⟩, hl, hm, .inr ⟨_, _, rfl, by simp⟩⟩
end
end Go.Proofs.Ythcajaadbdiggaa
