/- Contracts of Spoil and of begun of the laws of frame. -/
import Derived.Test.YthidgeeomilhdaaFrame
import Derived.Test.YthidgeeomilhdaaLaw0
namespace Go.Proofs.Ythidgeeomilhdaa
open Go.RowKit

/-- nothing but one block is other -/
structure OnlyBlk (o : Option Nat) (w w' : World) : Prop where
  os : w'.os = w.os
  tape : w'.tape = w.tape
  output : w'.output = w.output
  size : w'.heap.size = w.heap.size
  block : ∀ k, some k ≠ o → w'.heap[k]? = w.heap[k]?
theorem OnlyBlk.refl (o : Option Nat) (w : World) : OnlyBlk o w w := ⟨rfl, rfl, rfl, rfl, fun _ _ => rfl⟩
theorem OnlyBlk.set {o : Option Nat} {w w' : World} (h : OnlyBlk o w w') (g i : Nat) (u : Value) (hg : o = some g) : OnlyBlk o w (w'.setCell ⟨g, i, none⟩ u) := by
  subst hg
  refine ⟨h.os, h.tape, h.output, by simpa [World.setCell] using h.size, fun k hk => ?_⟩
  rw [Below.heap_setCell w' ⟨g, i, none⟩ u k (fun e => hk (by rw [e]))]
  exact h.block k hk
theorem OnlyBlk.below {o : Option Nat} {w w' : World} (h : OnlyBlk o w w') {base : Nat} (hb : ∀ k, o = some k → base ≤ k) : Below base w w' :=
  ⟨h.os, h.tape, h.output, Nat.le_of_eq h.size.symm, fun k hk => h.block k (fun e => by have := hb k e.symm; omega)⟩

theorem spoil_row (g n c : Nat) (cur : Array Value) (w : World) (hg : w.heap[g]? = some (.cells cur 5 (0, 0))) (hs : cur.size = c) (hn : n ≤ c) (hc : c ≤ maxLen) :
    Calls Try.prog 14 #[.slice (some ⟨g, 0, none⟩) n c] w fun e w' => e = .returned (.tuple #[]) ∧ OnlyBlk (some g) w w' := by
  unfold maxLen at hc
  go_enter Try.func14, Try.ntmps14
  go_wp2_with fail
  go_loopw [3] (fun i wr => ∃ (m : Nat) (cur : Array Value), m ≤ c ∧ i = .int .i64 m ∧ Hid (wr.heap[g]? = some (.cells cur 5 (0, 0))) ∧ Hid (cur.size = c) ∧ OnlyBlk (some g) w wr) (fun i _ => c - (intOf i).toNat)
  case atStart => exact ⟨0, cur, Nat.zero_le _, rfl, hg, hs, OnlyBlk.refl _ _⟩
  case round =>
    obtain ⟨m, cur2, hm, rfl, Hb, Hs, ho⟩ := hrel
    by_cases hlt : m < c
    · have hcell : wr.cell? ⟨g, m, none⟩ = some (cur2[m]'(by have := Hs.out; omega)) := by rw [cell_row Hb.out]; exact Array.getElem?_eq_getElem _
      have hfree := free_row Hb.out m
      have Hb2 := Lib.hid (set_row Hb.out m (.int .u8 90))
      have ho2 := ho.set g m (.int .u8 90) rfl
      generalize cur2[m]'_ = u at hcell
      go_wp2_with fail
      go_roundw
      case rel => exact ⟨m + 1, _, by omega, by go_num, Hb2.out, by rw [Array.size_setIfInBounds]; exact Hs.out, ho2⟩
      case measure => simp [intOf]; omega
    · obtain rfl : m = c := by omega
      go_wp2_with fail
      go_end0
      exact ⟨rfl, ho⟩
theorem spoil_nil (w : World) : Calls Try.prog 14 #[.slice none 0 0] w fun e w' => e = .returned (.tuple #[]) ∧ w = w' := by
  go_enter Try.func14, Try.ntmps14
  go_wp2_with fail
  go_loop [3] (fun i => i = .int .i64 0) (fun _ => 0)
  case atStart => rfl
  case round =>
    subst hrel
    go_wp2_with fail
    go_end0
    exact ⟨rfl, rfl⟩
theorem spoil_calls {base n : Nat} {v : Value} {xs : List Value} (w : World) (h : w.ownsRow base 5 1 v n xs) :
    Calls Try.prog 14 #[v] w fun e w' => e = .returned (.tuple #[]) ∧ OnlyBlk v.ownBlock w w' := by
  rcases h.2 with ⟨rfl, rfl⟩ | ⟨g, c, cur, rfl, _, hh, hle, hm, hs, _⟩
  · refine (spoil_nil w).mono ?_
    rintro e w' ⟨rfl, rfl⟩
    exact ⟨rfl, OnlyBlk.refl _ _⟩
  · exact spoil_row g n c cur w hh (by omega) hle hm

theorem own_move {w w' : World} {base : Nat} {e : TypeId} {size n : Nat} {v : Value} {xs : List Value} (h : w.ownsRow base e size v n xs) (hm : ∀ k, v.ownBlock = some k → w'.heap[k]? = w.heap[k]?) : w'.ownsRow base e size v n xs :=
  ⟨h.1, h.2.imp id (fun ⟨g, cap, cur, h1, h2, h3, h4⟩ => ⟨g, cap, cur, h1, h2, (hm g (by subst h1; rfl)).trans h3, h4⟩)⟩

theorem begun3_facts : nextErr (enc [1]) 0 = 0 ∧ recLen (enc [1]) 0 = 1 ∧ recBody (enc [1]) 0 = [1] ∧ scanOf (enc [1] ++ [7]) = ([[1]], 9) := by decide +kernel

set_option maxHeartbeats 1000000 in
theorem begun_calls (w : World) :
    Calls Try.prog 9 #[] w fun e w' => e = .returned (.bool true) ∧ Below w.heap.size w w' := by
  obtain ⟨f1, f2, f3, f4⟩ := begun3_facts
  go_enter Try.func9, Try.ntmps9
  go_wp2_with fail
  have hb0 := (Below.refl w.heap.size w).alloc (Nat.le_refl _) (.cells #[.int .u8 1] 5)
  have hr0 : Rd (w.alloc (.cells #[.int .u8 1] 5)) (some ⟨w.heap.size, 0, none⟩) 1 (ub [1]) := rd_one w _ 5
  refine (fput_calls none (some ⟨w.heap.size, 0, none⟩) 0 0 1 1 [] [1] _ (Rd.none_ _ _) hr0 (by decide) (by decide) (by decide)).mono ?_
  rintro e w1 ⟨⟨u, k, rfl, rfl, hown⟩, hb1⟩
  rw [List.nil_append] at hown
  obtain ⟨B, c, rfl, hc, hrd⟩ := own_rd hown
  have hbel := hb0.trans (hb1.mono hb0.size)
  clear hr0 hb0 hb1
  go_wp2_with fail
  refine (fnext_calls B _ c (enc [1]) 0 _ hrd hc (by decide) (by decide)).mono ?_
  rintro e w2 ⟨hp, hb2⟩
  rcases hp with ⟨h0, _⟩ | ⟨_, g, c2, rfl, ho⟩
  · exact absurd f1 h0
  rw [f2, f3] at ho
  rw [f2]
  have hown2 := own_weaken (own_below hown hb2) (base' := w.heap.size) (by simp)
  have hbel2 := below_then hbel hb2
  have hBlt : ∀ k, (Value.slice B (0 + 1 + 8) c).ownBlock = some k → k < w1.heap.size := fun k hk => (hown.lt k hk).2
  have hg1 : w1.heap.size ≤ g := (ho.lt g rfl).1
  clear hrd hown hb2
  have hbel3 := hbel2.alloc hbel2.size (.cells #[.int .u8 7] 5)
  have hown3 := hown2.alloc (.cells #[.int .u8 7] 5)
  have ho3 := ho.alloc (.cells #[.int .u8 7] 5)
  have hr7 : Rd (w2.alloc (.cells #[.int .u8 7] 5)) (some ⟨w2.heap.size, 0, none⟩) 1 (ub [7]) := rd_one w2 _ 5
  clear hbel2 hown2 ho
  go_wp2_with (at_builtin; refine wpList_app rfl (.tmp 20) (.tmp 21) _ rfl 5 (.int .u8 0) 1 Try.underlying22 info_u8 rfl (by decide) w.heap.size rfl hown3 rfl hr7 (ub_one _) ?_ ?_ ?_)
  case _ => omega
  case _ => exact hbel3.size
  case _ =>
    intro v' w4 hown4 hg4 _
    rw [← ub_append] at hown4
    have ho4 := own_move (w' := w4) ho3 (fun k hk => by
      refine hg4.block k (ho3.lt k hk).2 (fun e => ?_)
      have h1 := hBlt k e.symm
      injection hk with hk
      simp at hk
      omega)
    have hb4 := hbel3.grown hg4 hbel3.size (fun k hk => (own_base hown3 k hk))
    obtain ⟨D, d, rfl, hd, hrd4⟩ := own_rd hown4
    clear hown4 hg4 hbel3 hown3 ho3 hr7
    go_wp2_with fail
    refine (fscan_calls D _ d (enc [1] ++ [7]) _ hrd4 hd (by decide)).mono ?_
    rw [f4]
    rintro e w5 ⟨⟨E, n5, c5, G, cs, rfl, rfl, hn5, ho5, _⟩, hb5⟩
    obtain ⟨_, _, hw, _, hrd1⟩ := own_rd (own_below ho4 hb5)
    injection hw with e1 e2 e3
    subst e1 e3
    have hs1 := run_str (P := Try.prog) (dst := 9) Try.underlying22 Try.underlying5 Try.underlying9 hrd1 c2
    have hb6 := below_then hb4 hb5
    have htx : txt [1] = ⟨#[1]⟩ := rfl
    rw [htx] at hs1
    clear ho5 ho4 hrd1 hb4 hb5 hrd4
    go_wp2_with fail
    go_ret
    exact ⟨rfl, hb6⟩
end Go.Proofs.Ythidgeeomilhdaa
