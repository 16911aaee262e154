/- 's[:i]' -/
import Derived.Test.YthcajaadbdiggaaOwn
namespace Go.Proofs.Ythcajaadbdiggaa
set_option maxRecDepth 10000
open Go.RowKit

theorem cut_h {P : Program} {t e : TypeId} (ht : P.underlying t = some (.slice e)) (hsz : (P.info? e).map (·.size) = some 1) (A : Option Addr) (n c m : Nat) (hm : m ≤ n) (hc : n ≤ c) :
    ∃ A' : Option Addr, (∀ W : World, (Instr.slice t (.slice A n c) none (some (.int .i64 (m : Int))) none).run P W = .ok (.slice A' m c) W) ∧ ∀ (w : World) (xs : List UInt8), Rd w A n (ub xs) → Rd w A' m (ub (xs.take m)) := by
  obtain ⟨j, hj, hjs⟩ := Option.map_eq_some_iff.1 hsz
  refine ⟨if c = 0 then A else A.map (·.add 0), fun W => ?_, fun w xs h => ?_⟩
  · have hel : P.elem t = e := by simp [Program.elem, ht]
    have hu : P.underlying t = some (.slice (P.elem t)) := by rw [hel]; exact ht
    rw [run_slice_h W t A n c hu .i64 (m : Int) (Int.natCast_nonneg _) (by omega), hel]
    simp [sizeOf, typeInfo, hj, hjs, sliced, Result.andThen]
  · have h2 := h.take hm
    rw [ub_take] at h2
    split
    · exact h2
    · refine ⟨h2.1, fun h0 => ?_⟩
      obtain ⟨ad, rfl, hcell⟩ := h2.2 h0
      exact ⟨ad.add 0, rfl, fun j u hu => by rw [add_zero']; exact hcell j u hu⟩
end Go.Proofs.Ythcajaadbdiggaa
