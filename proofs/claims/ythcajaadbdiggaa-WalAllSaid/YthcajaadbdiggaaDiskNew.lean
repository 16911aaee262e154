/- Contract of New. -/
import Derived.Test.YthcajaadbdiggaaDiskOps
namespace Go.Proofs.Ythcajaadbdiggaa
set_option maxRecDepth 10000
open Go.RowKit
open Go.ChangeMaps (setBlock heap_setBlock_same heap_setBlock_other)

def DS.new : DS := { b := fun _ => [], l := fun _ => 0, armed := -1, off := false, lives := 0, steps := 0 }
theorem DS.new_ok : DS.new.Ok := ⟨fun _ => Nat.le_refl 0, fun _ => Nat.zero_le _, by decide, by decide, by decide, by decide⟩
theorem make_map (w : World) (t : TypeId) : (Instr.makeMap t none).run Try.prog w = .ok (.map (some w.heap.size)) (w.alloc (.map #[] 0)) := by
  simp [Instr.makeMap, newObj, Sem.run_bind, Sem.run, Result.andThen]
theorem put_new {P : Program} {t k e : TypeId} (ht : P.underlying t = some (.map k e)) (hk : P.underlying k = some (.int .i64)) {w : World} {b cl : Nat} {es : Array MapEntry} (hb : w.heap[b]? = some (.map es cl)) (f : Int) (v : Value)
    (hf : Instr.findNow (.int .i64) (.int .i64 f) es.toList 0 = some none) :
    (Instr.mapUpdate t (.map (some b)) (.int .i64 f) v).run P w = .ok () (setBlock w b (.map (es.push ⟨.int .i64 f, v, cl⟩) (cl + 1))) := by
  have h1 := MapKept.run_getObj_map (P := P) hb
  have h2 := fun e' => MapKept.run_checkKey (w := w) (k := .int .i64 f) hk (by simp [MapKept.IsKey]) e' 9999
  have h3 := MapKept.run_findKey (w := w) hk hf
  have h5 := fun o => MapKept.run_setObj_map (P := P) o hb
  simp only [Instr.mapUpdate, run_underlying ht, Sem.run_bind, h1, h2, h3, Result.andThen, h5]
  rfl
theorem new_calls (X : Nat → Prop) (w : World) :
    Calls Try.prog 11 #[] w fun e w' => ∃ d b V, e = .returned (.pointer (some ⟨d, 0, none⟩)) ∧ DiskAt X w' d b false V DS.new ∧ w.heap.size ≤ d ∧ w.heap.size ≤ b ∧ Below w.heap.size w w' := by
  have hm := make_map w 70
  have hb0 : (w.alloc (.map #[] 0)).heap[w.heap.size]? = some (.map #[] 0) := alloc_new w _ _ rfl
  have i1 := put_new (P := Try.prog) Try.underlying70 Try.underlying3 hb0 0 (.agg #[.slice none 0 0, .int .i64 0]) rfl
  have hb1 := heap_setBlock_same hb0 (.map ((#[] : Array MapEntry).push ⟨.int .i64 0, .agg #[.slice none 0 0, .int .i64 0], 0⟩) (0 + 1))
  have i2 := put_new (P := Try.prog) Try.underlying70 Try.underlying3 hb1 1 (.agg #[.slice none 0 0, .int .i64 0]) rfl
  have hb2 := heap_setBlock_same hb1 (.map (((#[] : Array MapEntry).push ⟨.int .i64 0, .agg #[.slice none 0 0, .int .i64 0], 0⟩).push ⟨.int .i64 1, .agg #[.slice none 0 0, .int .i64 0], 0 + 1⟩) (0 + 1 + 1))
  have hbel1 : Below w.heap.size w (w.alloc (.map #[] 0)) := (Below.refl _ _).alloc (Nat.le_refl _) _
  have hset : ∀ (u : World) (o : Obj) (es : Array MapEntry) (cl : Nat), u.heap[w.heap.size]? = some (.map es cl) → Below w.heap.size w u → Below w.heap.size w (setBlock u w.heap.size o) := fun u o es cl hu hb =>
    ⟨hb.os, hb.tape, hb.output, by simpa [setBlock] using hb.size, fun k hk => by rw [heap_setBlock_other hu o (by omega)]; exact hb.block k hk⟩
  have hbel2 := hset _ (.map ((#[] : Array MapEntry).push ⟨.int .i64 0, .agg #[.slice none 0 0, .int .i64 0], 0⟩) (0 + 1)) _ _ hb0 hbel1
  have hbel3 := hset _ (.map (((#[] : Array MapEntry).push ⟨.int .i64 0, .agg #[.slice none 0 0, .int .i64 0], 0⟩).push ⟨.int .i64 1, .agg #[.slice none 0 0, .int .i64 0], 0 + 1⟩) (0 + 1 + 1)) _ _ hb1 hbel2
  clear hb0 hb1 hbel1 hbel2 hset
  generalize setBlock (w.alloc (.map #[] 0)) w.heap.size (.map ((#[] : Array MapEntry).push ⟨.int .i64 0, .agg #[.slice none 0 0, .int .i64 0], 0⟩) (0 + 1)) = w2 at *
  generalize setBlock w2 w.heap.size (.map (((#[] : Array MapEntry).push ⟨.int .i64 0, .agg #[.slice none 0 0, .int .i64 0], 0⟩).push ⟨.int .i64 1, .agg #[.slice none 0 0, .int .i64 0], 0 + 1⟩) (0 + 1 + 1)) = w3 at *
  go_enter Try.func11, Try.ntmps11
  go_wp2_with fail
  go_ret
  refine ⟨w3.heap.size, w.heap.size, fun _ => fileV none 0 0 0, rfl, ⟨alloc_new _ _ _ rfl, alloc_old hb2, fun f _ => ⟨none, 0, rfl, Nat.le_refl _, Rd.none_ _ _, fun ad e => by cases e⟩, DS.new_ok⟩, hbel3.size, Nat.le_refl _, hbel3.alloc hbel3.size _⟩
end Go.Proofs.Ythcajaadbdiggaa
