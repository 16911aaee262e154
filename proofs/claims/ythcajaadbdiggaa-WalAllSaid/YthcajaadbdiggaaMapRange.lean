/- Ranging over a map of two entries. -/
import Derived.Test.YthcajaadbdiggaaMapTwo
namespace Go.Proofs.Ythcajaadbdiggaa
open Go.RowKit
open Go.ChangeMaps (setBlock heap_setBlock_same heap_setBlock_other)

theorem two_mem {sw : Bool} {v0 v1 : Value} {e : MapEntry} (h : e ∈ (twoEs sw v0 v1).toList) : ∃ f : Int, (f = 0 ∨ f = 1) ∧ e = ⟨.int .i64 f, (if f = 0 then v0 else v1), twoAt sw f⟩ := by
  cases sw
  · simp [twoEs] at h
    rcases h with rfl | rfl
    · exact ⟨0, .inl rfl, rfl⟩
    · exact ⟨1, .inr rfl, rfl⟩
  · simp [twoEs] at h
    rcases h with rfl | rfl
    · exact ⟨1, .inr rfl, rfl⟩
    · exact ⟨0, .inl rfl, rfl⟩
theorem two_in {sw : Bool} {v0 v1 : Value} {f : Int} (hf : f = 0 ∨ f = 1) : (⟨.int .i64 f, (if f = 0 then v0 else v1), twoAt sw f⟩ : MapEntry) ∈ (twoEs sw v0 v1).toList := by
  rcases hf with rfl | rfl <;> cases sw <;> simp [twoEs, twoAt]
theorem twoAt_lt (sw : Bool) (f : Int) : twoAt sw f < 2 := by unfold twoAt; split <;> split <;> decide
/-- one step of the range: a key that was not yet seen, or none is left -/
theorem two_next {P : Program} {w : World} {ty : TypeId} {r b : Nat} {seen : Array Nat} {c0 : Nat} {sw : Bool} {v0 v1 : Value}
    (hr : w.heap[r]? = some (.mapIter (some b) 2 seen c0)) (hb : w.heap[b]? = some (.map (twoEs sw v0 v1) 2)) (hc : 2 ≤ c0) :
    ((∀ f, f = 0 ∨ f = 1 → seen.contains (twoAt sw f) = true) ∧ (Instr.next (.pointer (some ⟨r, 0, none⟩)) false ty).run P w = .ok (.tuple #[.bool false]) w) ∨
    ∃ f : Int, (f = 0 ∨ f = 1) ∧ seen.contains (twoAt sw f) = false ∧ ∃ w1 : World, (w1 = w ∨ w1 = w.drew) ∧
      (Instr.next (.pointer (some ⟨r, 0, none⟩)) false ty).run P w = .ok (.tuple #[.bool true, .int .i64 f, if f = 0 then v0 else v1]) (setBlock w1 r (.mapIter (some b) 2 (seen.push (twoAt sw f)) 2)) := by
  rcases run_next_at (P := P) w ty r b 2 c0 seen _ 2 hr hb (fun x hx => by obtain ⟨f, _, rfl⟩ := two_mem hx; exact twoAt_lt sw f) hc with ⟨h0, hrun⟩ | ⟨e, he, w1, hw, hrun⟩
  · refine .inl ⟨fun f hf => ?_, hrun⟩
    cases hs : seen.contains (twoAt sw f) with
    | true => rfl
    | false =>
      exfalso
      have hm : (⟨.int .i64 f, (if f = 0 then v0 else v1), twoAt sw f⟩ : MapEntry) ∈ (leftOf (twoEs sw v0 v1) seen).toList := by
        unfold leftOf
        have := two_in (sw := sw) (v0 := v0) (v1 := v1) hf
        simp at this ⊢
        exact ⟨this, by simpa using hs⟩
      have h0' : leftOf (twoEs sw v0 v1) seen = #[] := Array.eq_empty_of_size_eq_zero h0
      rw [h0'] at hm
      simp at hm
  · have he2 : e ∈ (twoEs sw v0 v1).toList ∧ seen.contains e.born = false := by
      unfold leftOf at he
      simp at he ⊢
      exact ⟨he.1, by simpa using he.2⟩
    obtain ⟨f, hf, rfl⟩ := two_mem he2.1
    exact .inr ⟨f, hf, he2.2, w1, hw, hrun⟩
theorem two_entry {P : Program} {w : World} {r b : Nat} {seen : Array Nat} {sw : Bool} {v0 v1 : Value} {f : Int} (hf : f = 0 ∨ f = 1)
    (hr : w.heap[r]? = some (.mapIter (some b) 2 (seen.push (twoAt sw f)) 2)) (hb : w.heap[b]? = some (.map (twoEs sw v0 v1) 2)) :
    (Instr.entry (.pointer (some ⟨r, 0, none⟩))).run P w = .ok (.tuple #[.int .i64 f, if f = 0 then v0 else v1]) w :=
  run_entry_at w r b 2 seen _ 2 ⟨.int .i64 f, (if f = 0 then v0 else v1), twoAt sw f⟩ hr hb (two_in hf) (by cases sw <;> simp [twoEs])
end Go.Proofs.Ythcajaadbdiggaa
