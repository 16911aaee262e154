/- The operations of the laws of wal, opened. -/
import Derived.Test.YthcajaadbdiggaaOpen
import Derived.Test.YthcajaadbdiggaaOpsArg5
namespace Go.Proofs.Ythcajaadbdiggaa
set_option maxRecDepth 1000000
open Go.ChangeShapes Go.WideShapes Go.ChangeAt Go.RowKit Go.Deep

def OPBYTES : Nat := 96
theorem spot_none {w : World} {a : Addr} {v : Value} (h : w.cell? a = some v) : a.spot = none := by
  unfold World.cell? at h
  cases hs : a.spot with
  | none => rfl
  | some q => simp [hs] at h; split at h <;> cases h
theorem add_none (g q i : Nat) : (⟨g, q, none⟩ : Addr).add i = ⟨g, q + i, none⟩ := add_at0 g q i
section
variable {H : Type} {enc : TypeId × Value → H} {w : World} {base : Nat} {spare : Nat → Bool} {held : Bool}
theorem open_ops {fuel : Nat} {cs : List Value} {x : DataW H × List MemPlace} (h : DataW.trod enc Try.prog w base spare held fuel 22 cs = some x) :
    ∃ A n c os, cs = [.slice A n c] ∧ RdOps w A n os ∧ n ≤ c ∧ c ≤ maxLen ∧ LenIs x.1 n := by
  rcases open_slice Try.underlying22 h with ⟨rfl, rfl⟩ | ⟨a, len, cap, m, n, D, Pl, rfl, _, hl, hm, hmm, rfl, hi⟩
  · exact ⟨none, 0, 0, [], rfl, ⟨rfl, fun h => absurd h (by omega)⟩, Nat.le_refl _, by decide, .inl ⟨rfl, rfl⟩⟩
  · have hlm : len ≤ m := by rw [hmm]; split <;> omega
    have hc6 : Try.prog.cellsOf 39 = 6 := by kernel_rfl
    have hsp : 0 < len → a.spot = none := fun h0 => by
      obtain ⟨cs', hc1, _⟩ := hi 0 (by omega)
      rw [hc6] at hc1
      obtain ⟨_, hlen, hat⟩ := World.cells?_some hc1
      have t0 := hat 0 (by omega)
      match cs', hlen with
      | [v0, v1, v2, v3, v4, v5], _ => exact spot_none (v := v0) (by simpa [Addr.add] using t0)
    obtain ⟨os, hos, hp⟩ := choose_list (α := Op5) len (fun i o => OpAt5 w a.block (a.off + i * 6) o) (fun i hi' => by
      have hsp := hsp (by omega)
      obtain ⟨g, q, sp⟩ := a
      simp only at hsp
      subst hsp
      obtain ⟨cs', hc1, ht1⟩ := hi i (by omega)
      rw [hc6] at hc1
      obtain ⟨_, hlen, hat⟩ := World.cells?_some hc1
      obtain ⟨xs, k, hk, hxy, _, hxl, hf⟩ := DataW.trod_struct Try.underlying39 ht1
      have c1 : Try.prog.cellsOf 3 = 1 := by kernel_rfl
      have c2 : Try.prog.cellsOf 35 = 1 := by kernel_rfl
      have c3 : Try.prog.cellsOf 37 = 1 := by kernel_rfl
      have c4 : Try.prog.cellsOf 5 = 1 := by kernel_rfl
      have c5 : Try.prog.cellsOf 4 = 1 := by kernel_rfl
      have c6 : Try.prog.cellsOf 36 = 1 := by kernel_rfl
      match xs, hxl, cs', hlen with
      | [y0, y1, y2, y3, y4, y5], _, [v0, v1, v2, v3, v4, v5], _ =>
        have g0 := hf 0 _ rfl
        have g1 := hf 1 _ rfl
        have g2 := hf 2 _ rfl
        have g3 := hf 3 _ rfl
        have g4 := hf 4 _ rfl
        have g5 := hf 5 _ rfl
        simp [c1, c2, c3, c5, c6] at g0 g1 g2 g3 g4 g5
        obtain ⟨z0, e0, _, w0⟩ := DataW.trod_int Try.underlying3 g0
        obtain ⟨z1, e1, _, w1⟩ := DataW.trod_int Try.underlying3 g1
        obtain ⟨z2, e2, _⟩ := DataW.trod_bool Try.underlying4 g2
        obtain ⟨B, nb, cb, bs, e3, hB, hbc, _, _⟩ := open_bytes Try.underlying35 Try.underlying5 c4 g3
        obtain ⟨C, nl, cl, ls, e4, hC, hlc, _, _⟩ := open_bytess Try.underlying36 Try.underlying35 Try.underlying5 c4 c2 g4
        obtain ⟨K, nk, ck, ks, e5, hK, hkw, hkc, _, _⟩ := open_nums Try.underlying37 Try.underlying3 c1 g5
        simp at e0 e1 e2 e3 e4 e5
        subst e0 e1 e2 e3 e4 e5
        have hnb := hB.len
        have hnl := hC.1
        have hnk := hK.1
        rw [List.length_map] at hnk
        subst hnb hnl hnk
        have t0 := hat 0 (by omega)
        have t1 := hat 1 (by omega)
        have t2 := hat 2 (by omega)
        have t3 := hat 3 (by omega)
        have t4 := hat 4 (by omega)
        have t5 := hat 5 (by omega)
        rw [add_add, add_none] at t0 t1 t2 t3 t4 t5
        exact ⟨⟨z0, z1, z2, bs, ls, ks⟩, ⟨bounds_i64 w0, bounds_i64 w1, fun z hz => bounds_i64 (hkw z hz)⟩, B, cb, C, cl, K, ck, by simpa using t0, by simpa [Nat.add_assoc] using t1, by simpa [Nat.add_assoc] using t2, by simpa [Nat.add_assoc] using t3, by simpa [Nat.add_assoc] using t4, by simpa [Nat.add_assoc] using t5, hbc, hB, hlc, hC, hkc, hK⟩)
    refine ⟨some a, len, cap, os, rfl, ⟨hos, fun h0 => ?_⟩, hl, hm, .inr ⟨_, _, rfl, by simp⟩⟩
    have hs := hsp h0
    obtain ⟨g, q, sp⟩ := a
    simp only at hs
    subst hs
    exact ⟨g, q, rfl, fun j o ho => hp j o ho⟩
end
end Go.Proofs.Ythcajaadbdiggaa
