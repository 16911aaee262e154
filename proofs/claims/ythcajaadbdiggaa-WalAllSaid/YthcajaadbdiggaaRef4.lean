/- Contracts of the document's disk. -/
import Derived.Test.YthcajaadbdiggaaDiskPower
import Derived.Test.YthcajaadbdiggaaDiskNew
import Derived.Test.YthcajaadbdiggaaDiskR
import Derived.Deep.QuietTactic
import Derived.BigQuiet
namespace Go.Proofs.Ythcajaadbdiggaa
set_option maxRecDepth 10000
open Go.RowKit

theorem txt_app (xs ys : List UInt8) : txt xs ++ txt ys = txt (xs ++ ys) := by
  apply ByteArray.ext
  simp [txt]
def refCells (D : DS) : Obj := .cells #[.string (txt (D.b 0)), .string (txt (D.b 1)), .int .i64 (D.l 0 : Int), .int .i64 (D.l 1 : Int), .bool D.off, .int .i64 D.armed, .int .i64 (D.lives : Int), .int .i64 (D.steps : Int)] 76 (0, 0)
/-- the document's disk in memory -/
structure RefAt (w : World) (r : Nat) (D : DS) : Prop where
  cells : w.heap[r]? = some (refCells D)
  ok : D.Ok

theorem RefAt.cell {w : World} {r : Nat} {D : DS} (h : RefAt w r D) :
    w.cell? ⟨r, 4, none⟩ = some (.bool D.off) ∧ w.cell? ⟨r, 5, none⟩ = some (.int .i64 D.armed) ∧ w.cell? ⟨r, 6, none⟩ = some (.int .i64 (D.lives : Int)) ∧ w.cell? ⟨r, 7, none⟩ = some (.int .i64 (D.steps : Int)) ∧ ∀ j, w.frozen? ⟨r, j, none⟩ = false := by
  refine ⟨?_, ?_, ?_, ?_, fun j => ?_⟩
  · rw [cell_row h.cells]; rfl
  · rw [cell_row h.cells]; rfl
  · rw [cell_row h.cells]; rfl
  · rw [cell_row h.cells]; rfl
  · exact free_row h.cells j
theorem RefAt.file {w : World} {r : Nat} {D : DS} (h : RefAt w r D) :
    w.cell? ⟨r, 0, none⟩ = some (.string (txt (D.b 0))) ∧ w.cell? ⟨r, 1, none⟩ = some (.string (txt (D.b 1))) ∧ w.cell? ⟨r, 2, none⟩ = some (.int .i64 (D.l 0 : Int)) ∧ w.cell? ⟨r, 3, none⟩ = some (.int .i64 (D.l 1 : Int)) := by
  refine ⟨?_, ?_, ?_, ?_⟩
  · rw [cell_row h.cells]; rfl
  · rw [cell_row h.cells]; rfl
  · rw [cell_row h.cells]; rfl
  · rw [cell_row h.cells]; rfl

theorem ref4new_calls (w : World) : Calls Try.prog 12 #[] w fun e w' => ∃ r, e = .returned (.pointer (some ⟨r, 0, none⟩)) ∧ RefAt w' r DS.new ∧ w.heap.size ≤ r ∧ Below w.heap.size w w' := by
  go_enter Try.func12, Try.ntmps12
  go_wp2_with fail
  go_ret
  exact ⟨_, rfl, ⟨alloc_new _ _ _ rfl, DS.new_ok⟩, Nat.le_refl _, (Below.refl _ _).alloc (Nat.le_refl _) _⟩

theorem ref4may_calls (r : Nat) (D : DS) (f : Int) (w : World) (h : RefAt w r D) :
    Calls Try.prog 64 #[.pointer (some ⟨r, 0, none⟩), .int .i64 f] w fun e w' => e = .returned (.int .i64 (mayE D f)) ∧ w = w' := by
  obtain ⟨c4, _⟩ := h.cell
  unfold mayE
  generalize D.off = off at *
  cases off
  · by_cases h0 : f = 0
    · subst h0
      go_enter Try.func64, Try.ntmps64
      go_wp2_with fail
      go_ret
      exact ⟨rfl, rfl⟩
    · by_cases h1 : f = 1
      · subst h1
        go_enter Try.func64, Try.ntmps64
        go_wp2_with fail
        go_ret
        exact ⟨rfl, rfl⟩
      · rw [if_neg (by simp), if_neg (by omega)]
        have e0 : (f != 0) = true := by rw [bne_iff_ne]; exact h0
        have e1 : (f != 1) = true := by rw [bne_iff_ne]; exact h1
        go_enter Try.func64, Try.ntmps64
        go_wp2_with fail
        go_ret
        exact ⟨rfl, rfl⟩
  · go_enter Try.func64, Try.ntmps64
    go_wp2_with fail
    go_ret
    exact ⟨rfl, rfl⟩

theorem RefAt.set {w : World} {r : Nat} {D D' : DS} (h : RefAt w r D) (j : Nat) (u : Value) (hok : D'.Ok) (e : ∀ cs, refCells D = .cells cs 76 (0, 0) → refCells D' = .cells (cs.setIfInBounds j u) 76 (0, 0)) : RefAt (w.setCell ⟨r, j, none⟩ u) r D' :=
  ⟨by rw [set_row h.cells, e _ rfl], hok⟩
theorem RefAt.move {w w' : World} {r : Nat} {D : DS} (h : RefAt w r D) (hb : w'.heap[r]? = w.heap[r]?) : RefAt w' r D := ⟨hb.trans h.cells, h.ok⟩
theorem onlyR_set {r : Nat} {w w' : World} (h : OnlyD r r w w') (j : Nat) (u : Value) : OnlyD r r w (w'.setCell ⟨r, j, none⟩ u) := h.setCell j u

/-- what the document's step leaves -/
def DS.stepB (D : DS) : DS := if D.armed = 0 then { D with off := true } else D.step
theorem DS.step_ok {D : DS} (h : D.Ok) (hs : D.steps < 1099511627776) : D.step.Ok := ⟨h.last, h.size, by have := h.arm1; unfold DS.step; simp only; split <;> omega, by have := h.arm2; unfold DS.step; simp only; split <;> omega, h.lives, by unfold DS.step; simp only; omega⟩
theorem DS.stepB_ok {D : DS} (h : D.Ok) (hs : D.steps < 1099511627776) : D.stepB.Ok := by
  unfold DS.stepB; split
  · exact ⟨h.last, h.size, h.arm1, h.arm2, h.lives, h.steps⟩
  · exact DS.step_ok h hs

set_option maxHeartbeats 1000000 in
theorem ref4step_calls (r : Nat) (D : DS) (w : World) (h : RefAt w r D) (hs : D.steps < 1099511627776) :
    Calls Try.prog 65 #[.pointer (some ⟨r, 0, none⟩)] w fun e w' => e = .returned (.bool (decide (D.armed ≠ 0))) ∧ RefAt w' r D.stepB ∧ OnlyD r r w w' := by
  have hB := DS.stepB_ok h.ok hs
  have ha1 := h.ok.arm1
  have ha2 := h.ok.arm2
  obtain ⟨c4, c5, c6, c7, cf⟩ := h.cell
  by_cases ha : D.armed = 0
  · have h2 : RefAt (w.setCell ⟨r, 4, none⟩ (.bool true)) r D.stepB := h.set 4 _ hB (fun cs e => by unfold refCells at e ⊢; injection e with e; subst e; simp [DS.stepB, ha])
    have ho := (OnlyD.refl r r w).setCell 4 (.bool true)
    rw [decide_eq_false (by simp [ha])]
    clear h hB
    go_enter Try.func65, Try.ntmps65
    go_wp2_with fail
    go_ret
    exact ⟨rfl, h2, ho⟩
  · rw [decide_eq_true ha]
    have hne : (D.armed == 0) = false := by rw [beq_eq_false_iff_ne]; exact ha
    have es : ((D.steps + 1 : Nat) : Int) = (D.steps : Int) + 1 := by omega
    by_cases hp : 0 < D.armed
    · have h2 : RefAt ((w.setCell ⟨r, 5, none⟩ (.int .i64 (D.armed - 1))).setCell ⟨r, 7, none⟩ (.int .i64 ((D.steps : Int) + 1))) r D.stepB :=
        ⟨by rw [set_row (set_row h.cells _ _)]; simp [refCells, DS.stepB, ha, DS.step, hp, es], hB⟩
      have ho := ((OnlyD.refl r r w).setCell 5 (.int .i64 (D.armed - 1))).setCell 7 (.int .i64 ((D.steps : Int) + 1))
      clear h hB es
      generalize D.armed = a at *
      go_enter Try.func65, Try.ntmps65
      go_wp2_with fail
      go_ret
      exact ⟨rfl, h2, ho⟩
    · have h2 : RefAt (w.setCell ⟨r, 7, none⟩ (.int .i64 ((D.steps : Int) + 1))) r D.stepB :=
        ⟨by rw [set_row h.cells]; simp [refCells, DS.stepB, ha, DS.step, hp, es], hB⟩
      have ho := (OnlyD.refl r r w).setCell 7 (.int .i64 ((D.steps : Int) + 1))
      have hp' : D.armed ≤ 0 := by omega
      clear h hB es
      generalize D.armed = a at *
      go_enter Try.func65, Try.ntmps65
      go_wp2_with fail
      go_ret
      exact ⟨rfl, h2, ho⟩
end Go.Proofs.Ythcajaadbdiggaa
