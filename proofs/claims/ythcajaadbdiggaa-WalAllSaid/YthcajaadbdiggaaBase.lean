/- Words for memory: slices that read as lists of cells. -/
import Derived.WalkKit
import Derived.WalkSpells
import Derived.WalkLawsBesides
import Derived.Laws.BitsAllLaws
import Derived.Lib.Hide
import Derived.Deep.Draws
namespace Go.Proofs.Ythcajaadbdiggaa
open Go.RowKit

/-- bytes as cells -/
def ub (xs : List UInt8) : List Value := xs.map fun x => .int .u8 (x.toNat : Int)
def nat8 (xs : List UInt8) : List Nat := xs.map UInt8.toNat

theorem ub_length (xs : List UInt8) : (ub xs).length = xs.length := by simp [ub]
theorem ub_append (xs ys : List UInt8) : ub (xs ++ ys) = ub xs ++ ub ys := by simp [ub]
theorem ub_get (xs : List UInt8) (j : Nat) : (ub xs)[j]? = xs[j]?.map fun x => .int .u8 (x.toNat : Int) := by simp [ub]
theorem nat8_length (xs : List UInt8) : (nat8 xs).length = xs.length := by simp [nat8]
theorem nat8_append (xs ys : List UInt8) : nat8 (xs ++ ys) = nat8 xs ++ nat8 ys := by simp [nat8]
theorem nat8_lt (xs : List UInt8) : ∀ x ∈ nat8 xs, x < 256 := by
  intro x hx
  simp only [nat8, List.mem_map] at hx
  obtain ⟨u, _, rfl⟩ := hx
  exact u.toNat_lt

theorem add_add (a : Addr) (i j : Nat) : (a.add i).add j = a.add (i + j) := by
  unfold Addr.add
  by_cases hi : i = 0 <;> by_cases hj : j = 0 <;> simp [hi, hj, Nat.add_assoc]
theorem add_block (a : Addr) (i : Nat) : (a.add i).block = a.block := by unfold Addr.add; split <;> rfl
theorem add_zero' (a : Addr) : a.add 0 = a := by simp [Addr.add]

/-- the slice at A, of n elements of one cell each, reads as cs -/
def Rd (w : World) (A : Option Addr) (n : Nat) (cs : List Value) : Prop :=
  cs.length = n ∧ (0 < n → ∃ ad, A = some ad ∧ ∀ j u, cs[j]? = some u → w.cell? (ad.add j) = some u)

section
variable {w w' : World} {A : Option Addr} {n : Nat} {cs : List Value}
theorem Rd.at_ (h : Rd w A n cs) {k : Nat} (hk : k < n) : ∃ ad u, A = some ad ∧ cs[k]? = some u ∧ w.cell? (ad.add k) = some u := by
  obtain ⟨ad, e, hc⟩ := h.2 (by omega)
  have hl : k < cs.length := by have := h.1; omega
  exact ⟨ad, cs[k], e, List.getElem?_eq_getElem hl, hc k _ (List.getElem?_eq_getElem hl)⟩
theorem Rd.move (h : Rd w A n cs) (hm : ∀ a v, w.cell? a = some v → w'.cell? a = some v) : Rd w' A n cs :=
  ⟨h.1, fun hn => by obtain ⟨ad, e, hc⟩ := h.2 hn; exact ⟨ad, e, fun j u hu => hm _ _ (hc j u hu)⟩⟩
theorem Rd.below (h : Rd w A n cs) (hb : Below w.heap.size w w') : Rd w' A n cs :=
  h.move fun a _ hc => (hb.cell (World.block_lt_of_cell? w a hc)).trans hc
theorem Rd.byte {xs : List UInt8} (h : Rd w A n (ub xs)) {k : Nat} (hk : k < n) : ∃ ad x, A = some ad ∧ xs[k]? = some x ∧ w.cell? (ad.add k) = some (.int .u8 (x.toNat : Int)) := by
  obtain ⟨ad, u, e, hu, hc⟩ := h.at_ hk
  rw [ub_get] at hu
  cases hx : xs[k]? with
  | none => rw [hx] at hu; cases hu
  | some x => rw [hx] at hu; injection hu with hu; subst hu; exact ⟨ad, x, e, rfl, hc⟩
theorem Rd.len {xs : List UInt8} (h : Rd w A n (ub xs)) : xs.length = n := by have := h.1; rwa [ub_length] at this
theorem Rd.none_ (w : World) (A : Option Addr) : Rd w A 0 [] := ⟨rfl, fun h => absurd h (by omega)⟩
end

theorem alloc_heap (w : World) (o : Obj) : (w.alloc o).heap = w.heap.push o := rfl
theorem alloc_old {w : World} {o o' : Obj} {g : Nat} (h : w.heap[g]? = some o) : (w.alloc o').heap[g]? = some o := by
  have hlt : g < w.heap.size := (Array.getElem?_eq_some_iff.1 h).1
  rw [alloc_heap, Array.getElem?_push, if_neg (by omega)]; exact h
theorem alloc_new (w : World) (o : Obj) (g : Nat) (hg : g = w.heap.size) : (w.alloc o).heap[g]? = some o := by
  subst hg; rw [alloc_heap, Array.getElem?_push, if_pos rfl]
theorem cell_row {w : World} {g : Nat} {cs : Array Value} {t : TypeId} {fr : Nat × Nat} (h : w.heap[g]? = some (.cells cs t fr)) (j : Nat) : w.cell? ⟨g, j, none⟩ = cs[j]? := by simp [World.cell?, h]
theorem add_at0 (g o j : Nat) : (⟨g, o, none⟩ : Addr).add j = ⟨g, o + j, none⟩ := by unfold Addr.add; split <;> simp_all
/-- a row's first cells -/
theorem Rd.of_row {w : World} {g : Nat} {cs : Array Value} {t : TypeId} {fr : Nat × Nat} {n : Nat} {l r : List Value} (h : w.heap[g]? = some (.cells cs t fr)) (hl : l.length = n) (hp : cs.toList = l ++ r) : Rd w (some ⟨g, 0, none⟩) n l := by
  refine ⟨hl, fun _ => ⟨_, rfl, fun j u hu => ?_⟩⟩
  rw [add_at0, Nat.zero_add, cell_row h, ← Array.getElem?_toList, hp, List.getElem?_append_left (by exact (List.getElem?_eq_some_iff.1 hu).1), hu]

/-- the slice at A, of n slices of bytes, reads as ls -/
def RdL (w : World) (A : Option Addr) (n : Nat) (ls : List (List UInt8)) : Prop :=
  ls.length = n ∧ (0 < n → ∃ ad, A = some ad ∧ ∀ j l, ls[j]? = some l → ∃ B c, w.cell? (ad.add j) = some (.slice B l.length c) ∧ l.length ≤ c ∧ Rd w B l.length (ub l))

section
variable {w w' : World} {A : Option Addr} {n : Nat} {ls : List (List UInt8)}
theorem RdL.at_ (h : RdL w A n ls) {k : Nat} (hk : k < n) : ∃ ad l B c, A = some ad ∧ ls[k]? = some l ∧ w.cell? (ad.add k) = some (.slice B l.length c) ∧ l.length ≤ c ∧ Rd w B l.length (ub l) := by
  obtain ⟨ad, e, hc⟩ := h.2 (by omega)
  have hl : k < ls.length := by have := h.1; omega
  obtain ⟨B, c, h1, h2, h3⟩ := hc k ls[k] (List.getElem?_eq_getElem hl)
  exact ⟨ad, ls[k], B, c, e, List.getElem?_eq_getElem hl, h1, h2, h3⟩
theorem RdL.move (h : RdL w A n ls) (hm : ∀ a v, w.cell? a = some v → w'.cell? a = some v) : RdL w' A n ls :=
  ⟨h.1, fun hn => by
    obtain ⟨ad, e, hc⟩ := h.2 hn
    refine ⟨ad, e, fun j l hl => ?_⟩
    obtain ⟨B, c, h1, h2, h3⟩ := hc j l hl
    exact ⟨B, c, hm _ _ h1, h2, h3.move hm⟩⟩
theorem RdL.below (h : RdL w A n ls) (hb : Below w.heap.size w w') : RdL w' A n ls :=
  h.move fun a _ hc => (hb.cell (World.block_lt_of_cell? w a hc)).trans hc
theorem RdL.len (h : RdL w A n ls) : ls.length = n := h.1
end

end Go.Proofs.Ythcajaadbdiggaa
