/- A map of two entries, keys 0 and 1: looking up, laying in, ranging. -/
import Derived.Test.YthcajaadbdiggaaOwn
import Derived.Maps.RangeRun
import Derived.MapKept
import Derived.ChangeMaps5
namespace Go.Proofs.Ythcajaadbdiggaa
open Go.RowKit
open Go.ChangeMaps (setBlock heap_setBlock_same heap_setBlock_other)

/-- a map with two entries, in either order -/
def twoEs (sw : Bool) (v0 v1 : Value) : Array MapEntry := if sw then #[⟨.int .i64 1, v1, 0⟩, ⟨.int .i64 0, v0, 1⟩] else #[⟨.int .i64 0, v0, 0⟩, ⟨.int .i64 1, v1, 1⟩]
def pickV (v0 v1 z : Value) (f : Int) : Value := if f = 0 then v0 else if f = 1 then v1 else z
/-- where the entry of a key stands -/
def twoAt (sw : Bool) (f : Int) : Nat := if sw then (if f = 0 then 1 else 0) else (if f = 0 then 0 else 1)

theorem two_find (sw : Bool) (v0 v1 : Value) (f : Int) : Instr.findNow (.int .i64) (.int .i64 f) (twoEs sw v0 v1).toList 0 =
    some (if f = 0 then some (twoAt sw f, v0) else if f = 1 then some (twoAt sw f, v1) else none) := by
  by_cases h0 : f = 0
  · subst h0; cases sw <;> simp [twoEs, twoAt, Instr.findNow, Instr.sameNow]
  · by_cases h1 : f = 1
    · subst h1; cases sw <;> simp [twoEs, twoAt, Instr.findNow, Instr.sameNow]
    · have e0 : (f == 0) = false := by simp [h0]
      have e1 : (f == 1) = false := by simp [h1]
      cases sw <;> simp [twoEs, Instr.findNow, Instr.sameNow, e0, e1, h0, h1]
theorem two_key (sw : Bool) (v0 v1 : Value) {f : Int} (hf : f = 0 ∨ f = 1) : ((twoEs sw v0 v1)[twoAt sw f]?).map (·.key) = some (.int .i64 f) := by
  rcases hf with rfl | rfl <;> cases sw <;> rfl
theorem two_mod (sw : Bool) (v0 v1 v : Value) {f : Int} (hf : f = 0 ∨ f = 1) : (twoEs sw v0 v1).modify (twoAt sw f) (fun e => { e with key := .int .i64 f, val := v }) = twoEs sw (if f = 0 then v else v0) (if f = 0 then v1 else v) := by
  rcases hf with rfl | rfl <;> cases sw <;> simp [twoEs, twoAt]

section
variable {P : Program} {t k e : TypeId} (ht : P.underlying t = some (.map k e)) (hk : P.underlying k = some (.int .i64))
include ht hk
theorem two_look {w : World} {b : Nat} {sw : Bool} {v0 v1 z : Value} (hz : (zeroValue e).run P w = .ok z w) (hb : w.heap[b]? = some (.map (twoEs sw v0 v1) 2)) (f : Int) :
    (Instr.lookup t (.map (some b)) (.int .i64 f) false).run P w = .ok (pickV v0 v1 z f) w ∧
    (Instr.lookup t (.map (some b)) (.int .i64 f) true).run P w = .ok (.tuple #[pickV v0 v1 z f, .bool (decide (f = 0 ∨ f = 1))]) w := by
  have h1 := MapKept.run_getObj_map (P := P) hb
  have h2 := fun e' => MapKept.run_checkKey (w := w) (k := .int .i64 f) hk (by simp [MapKept.IsKey]) e' 9999
  have h3 := MapKept.run_findKey (w := w) hk (two_find sw v0 v1 f)
  by_cases h0 : f = 0
  · subst h0; simp [Instr.lookup, run_underlying ht, Sem.run_bind, h1, h2, h3, Result.andThen, pickV]
  · by_cases h1' : f = 1
    · subst h1'; simp [Instr.lookup, run_underlying ht, Sem.run_bind, h1, h2, h3, Result.andThen, pickV]
    · simp [Instr.lookup, run_underlying ht, Sem.run_bind, h1, h2, h3, Result.andThen, pickV, h0, h1', hz]
theorem two_put {w : World} {b : Nat} {sw : Bool} {v0 v1 : Value} (hb : w.heap[b]? = some (.map (twoEs sw v0 v1) 2)) (v : Value) {f : Int} (hf : f = 0 ∨ f = 1) :
    (Instr.mapUpdate t (.map (some b)) (.int .i64 f) v).run P w = .ok () (setBlock w b (.map (twoEs sw (if f = 0 then v else v0) (if f = 0 then v1 else v)) 2)) := by
  have h1 := MapKept.run_getObj_map (P := P) hb
  have h2 := fun e' => MapKept.run_checkKey (w := w) (k := .int .i64 f) hk (by simp [MapKept.IsKey]) e' 9999
  have h3 := MapKept.run_findKey (w := w) hk (two_find sw v0 v1 f)
  have h4 := MapKept.run_keyThatStays (P := P) (w := w) (d := .int .i64) (k := .int .i64 f) (by simp [MapKept.IsKey])
  have h5 := fun o => MapKept.run_setObj_map (P := P) o hb
  have h6 := two_key sw v0 v1 hf
  have h7 := two_mod sw v0 v1 v hf
  have h8 : (if f = 0 then some (twoAt sw f, v0) else if f = 1 then some (twoAt sw f, v1) else none) = some (twoAt sw f, if f = 0 then v0 else v1) := by rcases hf with rfl | rfl <;> simp
  rw [h8] at h3
  simp only [Instr.mapUpdate, run_underlying ht, Sem.run_bind, h1, h2, h3, Result.andThen, h6, Option.getD_some, h4, h5, h7]
  rfl
end
end Go.Proofs.Ythcajaadbdiggaa
