/- Contract of Spoil. -/
import Derived.Test.YthcajaadbdiggaaLaw0
namespace Go.Proofs.Ythcajaadbdiggaa
set_option maxRecDepth 10000
open Go.RowKit

/-- nothing but one block is other -/
structure OnlyBlk (o : Option Nat) (w w' : World) : Prop where
  os : w'.os = w.os
  tape : w'.tape = w.tape
  output : w'.output = w.output
  size : w'.heap.size = w.heap.size
  block : ∀ k, some k ≠ o → w'.heap[k]? = w.heap[k]?
theorem OnlyBlk.refl (o : Option Nat) (w : World) : OnlyBlk o w w := ⟨rfl, rfl, rfl, rfl, fun _ _ => rfl⟩
theorem OnlyBlk.set {o : Option Nat} {w w' : World} (h : OnlyBlk o w w') (g i : Nat) (u : Value) (hg : o = some g) : OnlyBlk o w (w'.setCell ⟨g, i, none⟩ u) := by
  subst hg
  refine ⟨h.os, h.tape, h.output, by simpa [World.setCell] using h.size, fun k hk => ?_⟩
  rw [Below.heap_setCell w' ⟨g, i, none⟩ u k (fun e => hk (by rw [e]))]
  exact h.block k hk
theorem OnlyBlk.below {o : Option Nat} {w w' : World} (h : OnlyBlk o w w') {base : Nat} (hb : ∀ k, o = some k → base ≤ k) : Below base w w' :=
  ⟨h.os, h.tape, h.output, Nat.le_of_eq h.size.symm, fun k hk => h.block k (fun e => by have := hb k e.symm; omega)⟩

theorem spoil_row (g n c : Nat) (cur : Array Value) (w : World) (hg : w.heap[g]? = some (.cells cur 5 (0, 0))) (hs : cur.size = c) (hn : n ≤ c) (hc : c ≤ maxLen) :
    Calls Try.prog 40 #[.slice (some ⟨g, 0, none⟩) n c] w fun e w' => e = .returned (.tuple #[]) ∧ OnlyBlk (some g) w w' := by
  unfold maxLen at hc
  go_enter Try.func40, Try.ntmps40
  go_wp2_with fail
  go_loopw [3] (fun i wr => ∃ (m : Nat) (cur : Array Value), m ≤ c ∧ i = .int .i64 m ∧ Hid (wr.heap[g]? = some (.cells cur 5 (0, 0))) ∧ Hid (cur.size = c) ∧ OnlyBlk (some g) w wr) (fun i _ => c - (intOf i).toNat)
  case atStart => exact ⟨0, cur, Nat.zero_le _, rfl, hg, hs, OnlyBlk.refl _ _⟩
  case round =>
    obtain ⟨m, cur2, hm, rfl, Hb, Hs, ho⟩ := hrel
    by_cases hlt : m < c
    · have hcell : wr.cell? ⟨g, m, none⟩ = some (cur2[m]'(by have := Hs.out; omega)) := by rw [cell_row Hb.out]; exact Array.getElem?_eq_getElem _
      have hfree := free_row Hb.out m
      have Hb2 := Lib.hid (set_row Hb.out m (.int .u8 90))
      have ho2 := ho.set g m (.int .u8 90) rfl
      generalize cur2[m]'_ = u at hcell
      go_wp2_with fail
      go_roundw
      case rel => exact ⟨m + 1, _, by omega, by go_num, Hb2.out, by rw [Array.size_setIfInBounds]; exact Hs.out, ho2⟩
      case measure => simp [intOf]; omega
    · obtain rfl : m = c := by omega
      go_wp2_with fail
      go_end0
      exact ⟨rfl, ho⟩
theorem spoil_nil (w : World) : Calls Try.prog 40 #[.slice none 0 0] w fun e w' => e = .returned (.tuple #[]) ∧ w = w' := by
  go_enter Try.func40, Try.ntmps40
  go_wp2_with fail
  go_loop [3] (fun i => i = .int .i64 0) (fun _ => 0)
  case atStart => rfl
  case round =>
    subst hrel
    go_wp2_with fail
    go_end0
    exact ⟨rfl, rfl⟩
theorem spoil_calls {base n : Nat} {v : Value} {xs : List Value} (w : World) (h : w.ownsRow base 5 1 v n xs) :
    Calls Try.prog 40 #[v] w fun e w' => e = .returned (.tuple #[]) ∧ OnlyBlk v.ownBlock w w' := by
  rcases h.2 with ⟨rfl, rfl⟩ | ⟨g, c, cur, rfl, _, hh, hle, hm, hs, _⟩
  · refine (spoil_nil w).mono ?_
    rintro e w' ⟨rfl, rfl⟩
    exact ⟨rfl, OnlyBlk.refl _ _⟩
  · exact spoil_row g n c cur w hh (by omega) hle hm

theorem own_move {w w' : World} {base : Nat} {e : TypeId} {size n : Nat} {v : Value} {xs : List Value} (h : w.ownsRow base e size v n xs) (hm : ∀ k, v.ownBlock = some k → w'.heap[k]? = w.heap[k]?) : w'.ownsRow base e size v n xs :=
  ⟨h.1, h.2.imp id (fun ⟨g, cap, cur, h1, h2, h3, h4⟩ => ⟨g, cap, cur, h1, h2, (hm g (by subst h1; rfl)).trans h3, h4⟩)⟩

end Go.Proofs.Ythcajaadbdiggaa
