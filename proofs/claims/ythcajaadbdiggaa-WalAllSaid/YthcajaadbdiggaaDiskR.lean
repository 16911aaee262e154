/- The operations of a disk, each as one function of the disk. -/
import Derived.Test.YthcajaadbdiggaaDiskOps
namespace Go.Proofs.Ythcajaadbdiggaa
set_option maxRecDepth 10000
open Go.RowKit
open Go.ChangeMaps (setBlock heap_setBlock_same heap_setBlock_other)
variable {X : Nat → Prop}

/-- a step: what is left, and what is answered -/
def DS.stepR (D D' : DS) : DS × Int := if D.armed = 0 then ({ D with off := true }, 6) else (D'.step, 0)
def DS.askR (D : DS) (f : Int) (D' : DS) : DS × Int := if mayE D f = 0 then D.stepR D' else (D, mayE D f)
def DS.appR (D : DS) (f : Int) (ys : List UInt8) : DS × Int := if mayE D f = 0 ∧ 4194304 < (D.b f).length + ys.length then (D, 8) else D.askR f (D.put f (D.b f ++ ys) (D.l f))
def DS.syncR (D : DS) (f : Int) : DS × Int := D.askR f (D.put f (D.b f) (D.b f).length)
def DS.clearR (D : DS) (f : Int) : DS × Int := D.askR f (D.put f [] 0)

theorem stepR_steps {D D' : DS} (h : D'.steps = D.steps) : (D.stepR D').1.steps ≤ D.steps + 1 := by
  unfold DS.stepR; split
  · simp
  · simp [DS.step, h]
theorem askR_steps {D D' : DS} {f : Int} (h : D'.steps = D.steps) : (D.askR f D').1.steps ≤ D.steps + 1 := by
  unfold DS.askR; split
  · exact stepR_steps h
  · simp
theorem appR_steps (D : DS) (f : Int) (ys : List UInt8) : (D.appR f ys).1.steps ≤ D.steps + 1 := by
  unfold DS.appR; split
  · simp
  · exact askR_steps rfl
theorem syncR_steps (D : DS) (f : Int) : (D.syncR f).1.steps ≤ D.steps + 1 := askR_steps rfl
theorem clearR_steps (D : DS) (f : Int) : (D.clearR f).1.steps ≤ D.steps + 1 := askR_steps rfl
theorem stepR_lives {D D' : DS} (h : D'.lives = D.lives) : (D.stepR D').1.lives = D.lives := by
  unfold DS.stepR; split
  · rfl
  · simp [DS.step, h]
theorem askR_lives {D D' : DS} {f : Int} (h : D'.lives = D.lives) : (D.askR f D').1.lives = D.lives := by
  unfold DS.askR; split
  · exact stepR_lives h
  · rfl
theorem appR_lives (D : DS) (f : Int) (ys : List UInt8) : (D.appR f ys).1.lives = D.lives := by
  unfold DS.appR; split
  · rfl
  · exact askR_lives rfl
theorem syncR_lives (D : DS) (f : Int) : (D.syncR f).1.lives = D.lives := askR_lives rfl
theorem clearR_lives (D : DS) (f : Int) : (D.clearR f).1.lives = D.lives := askR_lives rfl

def RPost (X : Nat → Prop) (w : World) (d b : Nat) (sw : Bool) (R : DS × Int) (e : Ending) (w' : World) : Prop :=
  e = .returned (.int .i64 R.2) ∧ (∃ V', DiskAt X w' d b sw V' R.1) ∧ OnlyD d b w w'
theorem RPost.of_op {w : World} {d b : Nat} {sw : Bool} {D D' : DS} {f : Int} {e : Ending} {w' : World} (h : opPost X w d b sw D f D' e w') : RPost X w d b sw (D.askR f D') e w' := by
  obtain ⟨⟨V', h⟩, ho⟩ := h
  unfold DS.askR DS.stepR
  rcases h with ⟨h1, rfl, h3⟩ | ⟨h1, h2, rfl, h3⟩ | ⟨h1, h2, rfl, h3⟩
  · rw [if_neg h1]; exact ⟨rfl, ⟨V', h3⟩, ho⟩
  · rw [if_pos h1, if_pos h2]; exact ⟨rfl, ⟨V', h3⟩, ho⟩
  · rw [if_pos h1, if_neg h2]; exact ⟨rfl, ⟨V', h3⟩, ho⟩
theorem clearR_calls {d b : Nat} {sw : Bool} {V : Int → Value} {D : DS} (f : Int) {w : World} (h : DiskAt X w d b sw V D) (hs : D.steps < 1099511627776) :
    Calls Try.prog 58 #[.pointer (some ⟨d, 0, none⟩), .int .i64 f] w fun e w' => RPost X w d b sw (D.clearR f) e w' :=
  (clear_calls d b sw V D f w h hs).mono fun _ _ h => .of_op h
theorem syncR_calls {d b : Nat} {sw : Bool} {V : Int → Value} {D : DS} (f : Int) {w : World} (h : DiskAt X w d b sw V D) (hs : D.steps < 1099511627776) :
    Calls Try.prog 18 #[.pointer (some ⟨d, 0, none⟩), .int .i64 f] w fun e w' => RPost X w d b sw (D.syncR f) e w' :=
  (sync_calls d b sw V D f w h hs).mono fun _ _ h => .of_op h
theorem appR_calls {d b : Nat} {sw : Bool} {V : Int → Value} {D : DS} (f : Int) {B : Option Addr} {m cap : Nat} {ys : List UInt8} {w : World} (h : DiskAt X w d b sw V D) (hy : Rd w B m (ub ys)) (hm : m ≤ 4294967296) (hX : ∀ k, w.heap.size ≤ k → X k) (hs : D.steps < 1099511627776) :
    Calls Try.prog 26 #[.pointer (some ⟨d, 0, none⟩), .int .i64 f, .slice B m cap] w fun e w' => RPost X w d b sw (D.appR f ys) e w' := by
  refine (append_calls d b sw V D f B m cap ys w h hy hm hX hs).mono fun e w' hp => ?_
  unfold DS.appR
  rcases hp with ⟨h1, h2, ⟨V', rfl, h3⟩, ho⟩ | ⟨h1, h2⟩
  · rw [if_pos ⟨h1, h2⟩]; exact ⟨rfl, ⟨V', h3⟩, ho⟩
  · rw [if_neg (fun hh => by rcases h1 with h1 | h1; exact h1 hh.1; omega)]; exact .of_op h2

/-- a disk whose blocks are as they were -/
theorem DiskAt.frame {w w' : World} {d b : Nat} {sw : Bool} {V : Int → Value} {D : DS} (h : DiskAt X w d b sw V D) (hs : w.heap.size ≤ w'.heap.size) (hm : ∀ k, k < w.heap.size → (k = d ∨ k = b ∨ X k) → w'.heap[k]? = w.heap[k]?) : DiskAt X w' d b sw V D := by
  refine ⟨(hm d h.lt.1 (.inl rfl)).trans h.cells, (hm b h.lt.2 (.inr (.inl rfl))).trans h.map, fun f hf => ?_, h.ok⟩
  obtain ⟨A, c, h1, h2, h3, h4⟩ := h.file f hf
  exact ⟨A, c, h1, h2, h3.at_block (fun ad e => hm _ (h4 ad e).2.2.1 (.inr (.inr (h4 ad e).2.2.2))), fun ad e => ⟨(h4 ad e).1, (h4 ad e).2.1, Nat.lt_of_lt_of_le (h4 ad e).2.2.1 hs, (h4 ad e).2.2.2⟩⟩
theorem DiskAt.imp {Y : Nat → Prop} {w : World} {d b : Nat} {sw : Bool} {V : Int → Value} {D : DS} (h : DiskAt X w d b sw V D) (hm : ∀ k, k < w.heap.size → X k → Y k) : DiskAt Y w d b sw V D := by
  refine ⟨h.cells, h.map, fun f hf => ?_, h.ok⟩
  obtain ⟨A, c, h1, h2, h3, h4⟩ := h.file f hf
  exact ⟨A, c, h1, h2, h3, fun ad e => ⟨(h4 ad e).1, (h4 ad e).2.1, (h4 ad e).2.2.1, hm _ (h4 ad e).2.2.1 (h4 ad e).2.2.2⟩⟩
theorem appR_ok {D : DS} {f : Int} {ys : List UInt8} (h : mayE D f = 0) (hl : (D.b f).length + ys.length ≤ 4194304) (ha : D.armed ≠ 0) : D.appR f ys = ((D.put f (D.b f ++ ys) (D.l f)).step, 0) := by
  unfold DS.appR DS.askR DS.stepR
  rw [if_neg (by omega), if_pos h, if_neg ha]
theorem syncR_ok {D : DS} {f : Int} (h : mayE D f = 0) (ha : D.armed ≠ 0) : D.syncR f = ((D.put f (D.b f) (D.b f).length).step, 0) := by
  unfold DS.syncR DS.askR DS.stepR
  rw [if_pos h, if_neg ha]
theorem clearR_ok {D : DS} {f : Int} (h : mayE D f = 0) (ha : D.armed ≠ 0) : D.clearR f = ((D.put f [] 0).step, 0) := by
  unfold DS.clearR DS.askR DS.stepR
  rw [if_pos h, if_neg ha]
end Go.Proofs.Ythcajaadbdiggaa
