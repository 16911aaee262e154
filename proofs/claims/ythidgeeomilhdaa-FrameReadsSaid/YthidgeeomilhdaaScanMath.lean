/- What a scan reaches. -/
import Derived.Test.YthidgeeomilhdaaFrameMath
namespace Go.Proofs.Ythidgeeomilhdaa

theorem reach_end (xs : List UInt8) : ∀ (k : Nat) (ls : List (List UInt8)) (a : Nat), Reach xs ls a → xs.length - a ≤ k → ∃ ls' a', Reach xs ls' a' ∧ nextErr xs a' ≠ 0
  | k, ls, a, h, hk => by
    by_cases hst : nextErr xs a = 0
    · have h2 := h.step hst
      have hb := next_ok hst
      cases k with
      | zero => omega
      | succ k => exact reach_end xs k _ _ h2 (by omega)
    · exact ⟨ls, a, h, hst⟩
theorem scan_reach (xs : List UInt8) : Reach xs (scanOf xs).1 (scanOf xs).2 ∧ nextErr xs (scanOf xs).2 ≠ 0 := by
  obtain ⟨ls, a, h, he⟩ := reach_end xs _ [] 0 Reach.start (Nat.le_refl _)
  rw [h.done he]
  exact ⟨h, he⟩
theorem scan_bound (xs : List UInt8) : (scanOf xs).2 ≤ xs.length ∧ 8 * (scanOf xs).1.length ≤ (scanOf xs).2 := (scan_reach xs).1.bound
end Go.Proofs.Ythidgeeomilhdaa
