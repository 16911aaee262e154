/- Contracts of package disk. -/
import Derived.Test.YthcajaadbdiggaaRows
import Derived.Test.YthcajaadbdiggaaOwn
import Derived.Test.YthcajaadbdiggaaMapTwo
import Derived.Test.YthcajaadbdiggaaLaw0
import Derived.Deep.RegionHeld3
import Derived.StillTailTactics
import Derived.Laws.Cover3
namespace Go.Proofs.Ythcajaadbdiggaa
set_option maxRecDepth 10000
open Go.RowKit
open Go.ChangeMaps (setBlock heap_setBlock_same heap_setBlock_other)
variable {X : Nat → Prop}

/-- a disk: of each file its bytes and how many last -/
structure DS where
  b : Int → List UInt8
  l : Int → Nat
  armed : Int
  off : Bool
  lives : Nat
  steps : Nat

structure DS.Ok (D : DS) : Prop where
  last : ∀ f, D.l f ≤ (D.b f).length
  size : ∀ f, (D.b f).length ≤ 4194304
  arm1 : -1 ≤ D.armed
  arm2 : D.armed ≤ 9223372036854775807
  lives : D.lives ≤ 1099511627776
  steps : D.steps ≤ 1099511627776

abbrev fileV (A : Option Addr) (n c l : Nat) : Value := .agg #[.slice A n c, .int .i64 (l : Int)]
/-- a disk in memory -/
structure DiskAt (X : Nat → Prop) (w : World) (d b : Nat) (sw : Bool) (V : Int → Value) (D : DS) : Prop where
  cells : w.heap[d]? = some (.cells #[.map (some b), .int .i64 D.armed, .bool D.off, .int .i64 D.lives, .int .i64 D.steps] 72 (0, 0))
  map : w.heap[b]? = some (.map (twoEs sw (V 0) (V 1)) 2)
  file : ∀ f, f = 0 ∨ f = 1 → ∃ A c, V f = fileV A (D.b f).length c (D.l f) ∧ (D.b f).length ≤ c ∧ Rd w A (D.b f).length (ub (D.b f)) ∧ ∀ ad, A = some ad → ad.block ≠ d ∧ ad.block ≠ b ∧ ad.block < w.heap.size ∧ X ad.block
  ok : D.Ok

theorem DiskAt.cell {w : World} {d b : Nat} {sw : Bool} {V : Int → Value} {D : DS} (h : DiskAt X w d b sw V D) :
    w.cell? ⟨d, 0, none⟩ = some (.map (some b)) ∧ w.cell? ⟨d, 1, none⟩ = some (.int .i64 D.armed) ∧ w.cell? ⟨d, 2, none⟩ = some (.bool D.off) ∧ w.cell? ⟨d, 3, none⟩ = some (.int .i64 D.lives) ∧ w.cell? ⟨d, 4, none⟩ = some (.int .i64 D.steps) ∧ ∀ j, w.frozen? ⟨d, j, none⟩ = false := by
  refine ⟨?_, ?_, ?_, ?_, ?_, fun j => ?_⟩
  · rw [cell_row h.cells]; rfl
  · rw [cell_row h.cells]; rfl
  · rw [cell_row h.cells]; rfl
  · rw [cell_row h.cells]; rfl
  · rw [cell_row h.cells]; rfl
  · simp [World.frozen?, h.cells]

theorem map_some (b : Nat) (w : World) : (binOp BinOp.eql 70 (.map (some b)) (.map none)).run Try.prog w = .ok (.bool false) w := by
  simp [binOp, run_equal_map_nil _ _ _ _ _ Try.underlying70, Result.andThen]
theorem none_calls (d b : Nat) (sw : Bool) (V : Int → Value) (D : DS) (w : World) (h : DiskAt X w d b sw V D) :
    Calls Try.prog 50 #[.pointer (some ⟨d, 0, none⟩)] w fun e w' => e = .returned (.bool false) ∧ w = w' := by
  obtain ⟨h0, _⟩ := h.cell
  have hm := map_some b w
  clear h
  go_enter Try.func50, Try.ntmps50
  go_wp2_with fail
  go_ret
  exact ⟨rfl, rfl⟩

/-- may a file be asked? -/
def mayE (D : DS) (f : Int) : Int := if D.off then 6 else if f = 0 ∨ f = 1 then 0 else 1
theorem zero_file (w : World) : (zeroValue 69).run Try.prog w = .ok (fileV none 0 0 0) w := by
  have h : (Try.prog.info? 69).map (·.zero) = some (some (fileV none 0 0 0)) := by kernel_rfl
  obtain ⟨i, hi, hz⟩ := Option.map_eq_some_iff.1 h
  simp [zeroValue, typeInfo, hi, hz, Result.andThen]
theorem may_calls (d b : Nat) (sw : Bool) (V : Int → Value) (D : DS) (f : Int) (w : World) (h : DiskAt X w d b sw V D) :
    Calls Try.prog 51 #[.pointer (some ⟨d, 0, none⟩), .int .i64 f] w fun e w' => e = .returned (.int .i64 (mayE D f)) ∧ Below w.heap.size w w' := by
  have hn := none_calls d b sw V D w h
  obtain ⟨h0, _, h2, _⟩ := h.cell
  have hl := (two_look (P := Try.prog) Try.underlying70 Try.underlying3 (zero_file w) h.map f).2
  obtain ⟨A, n, c, l, hx⟩ : ∃ A n c l, pickV (V 0) (V 1) (fileV none 0 0 0) f = fileV A n c l := by
    unfold pickV
    split
    · obtain ⟨A, c, h1, _⟩ := h.file 0 (.inl rfl); exact ⟨_, _, _, _, h1⟩
    · split
      · obtain ⟨A, c, h1, _⟩ := h.file 1 (.inr rfl); exact ⟨_, _, _, _, h1⟩
      · exact ⟨_, _, _, _, rfl⟩
  rw [hx] at hl
  clear h hx
  have hE : ∀ bb : Bool, decide (f = 0 ∨ f = 1) = bb → mayE D f = if D.off then 6 else if bb then 0 else 1 := by
    intro bb h; unfold mayE; subst h; simp
  generalize hbb : decide (f = 0 ∨ f = 1) = bb at *
  have HE := Lib.hid (hE bb rfl)
  clear hE hbb
  rw [HE.out]
  clear HE
  generalize D.off = off at *
  go_enter Try.func51, Try.ntmps51
  go_wp2_with fail
  refine hn.mono ?_
  rintro e w1 ⟨rfl, rfl⟩
  cases off
  · cases bb
    · go_wp2_with fail
      go_ret
      exact ⟨rfl, (Below.refl _ _).alloc (Nat.le_refl _) _⟩
    · go_wp2_with fail
      go_ret
      exact ⟨rfl, (Below.refl _ _).alloc (Nat.le_refl _) _⟩
  · go_wp2_with fail
    go_ret
    exact ⟨rfl, Below.refl _ _⟩

/-- nothing but the disk's own two blocks is other, and blocks are new -/
structure OnlyD (d b : Nat) (w w' : World) : Prop where
  os : w'.os = w.os
  tape : w'.tape = w.tape
  output : w'.output = w.output
  size : w.heap.size ≤ w'.heap.size
  block : ∀ k, k < w.heap.size → k ≠ d → k ≠ b → w'.heap[k]? = w.heap[k]?
theorem OnlyD.refl (d b : Nat) (w : World) : OnlyD d b w w := ⟨rfl, rfl, rfl, Nat.le_refl _, fun _ _ _ _ => rfl⟩
theorem OnlyD.trans {d b : Nat} {u v w : World} (h : OnlyD d b u v) (k : OnlyD d b v w) : OnlyD d b u w :=
  ⟨k.os.trans h.os, k.tape.trans h.tape, k.output.trans h.output, Nat.le_trans h.size k.size, fun j hj h1 h2 => (k.block j (Nat.lt_of_lt_of_le hj h.size) h1 h2).trans (h.block j hj h1 h2)⟩
theorem OnlyD.of_below {d b : Nat} {w w' : World} (h : Below w.heap.size w w') : OnlyD d b w w' := ⟨h.os, h.tape, h.output, h.size, fun k hk _ _ => h.block k hk⟩
theorem OnlyD.below {d b base : Nat} {w w' : World} (h : OnlyD d b w w') (hd : base ≤ d) (hb : base ≤ b) (hs : base ≤ w.heap.size) : Below base w w' :=
  ⟨h.os, h.tape, h.output, h.size, fun k hk => h.block k (by omega) (by omega) (by omega)⟩
theorem OnlyD.setCell {d b : Nat} {w w' : World} (h : OnlyD d b w w') (j : Nat) (u : Value) : OnlyD d b w (w'.setCell ⟨d, j, none⟩ u) := by
  refine ⟨h.os, h.tape, h.output, by simpa [World.setCell] using h.size, fun k hk h1 h2 => ?_⟩
  rw [Below.heap_setCell w' ⟨d, j, none⟩ u k (fun e => h1 e)]
  exact h.block k hk h1 h2
theorem OnlyD.setBlock {d b : Nat} {w w' : World} (h : OnlyD d b w w') {es : Array MapEntry} {cl : Nat} (hb : w'.heap[b]? = some (.map es cl)) (o : Obj) : OnlyD d b w (setBlock w' b o) := by
  refine ⟨h.os, h.tape, h.output, by simpa [ChangeMaps.setBlock] using h.size, fun k hk h1 h2 => ?_⟩
  rw [heap_setBlock_other hb o h2]
  exact h.block k hk h1 h2
theorem Rd.at_block {w w' : World} {A : Option Addr} {n : Nat} {cs : List Value} (h : Rd w A n cs) (hm : ∀ ad, A = some ad → w'.heap[ad.block]? = w.heap[ad.block]?) : Rd w' A n cs :=
  ⟨h.1, fun hn => by
    obtain ⟨ad, e, hc⟩ := h.2 hn
    refine ⟨ad, e, fun j u hu => ?_⟩
    have h1 := hc j u hu
    unfold World.cell? at h1 ⊢
    rw [add_block] at h1 ⊢
    rw [hm ad e]
    exact h1⟩

def cellsOf (b : Nat) (D : DS) : Obj := .cells #[.map (some b), .int .i64 D.armed, .bool D.off, .int .i64 D.lives, .int .i64 D.steps] 72 (0, 0)
theorem DiskAt.ne {w : World} {d b : Nat} {sw : Bool} {V : Int → Value} {D : DS} (h : DiskAt X w d b sw V D) : d ≠ b := by
  intro e
  have h1 := h.cells
  rw [e, h.map] at h1
  cases h1
theorem DiskAt.lt {w : World} {d b : Nat} {sw : Bool} {V : Int → Value} {D : DS} (h : DiskAt X w d b sw V D) : d < w.heap.size ∧ b < w.heap.size := ⟨heap_lt h.cells, heap_lt h.map⟩
theorem DiskAt.turn {w w' : World} {d b : Nat} {sw : Bool} {V : Int → Value} {D D' : DS} (h : DiskAt X w d b sw V D) (ho : OnlyD d b w w')
    (hc : w'.heap[d]? = some (cellsOf b D')) (hm : w'.heap[b]? = some (.map (twoEs sw (V 0) (V 1)) 2)) (hb : D'.b = D.b) (hl : D'.l = D.l) (hok : D'.Ok) : DiskAt X w' d b sw V D' := by
  refine ⟨hc, hm, fun f hf => ?_, hok⟩
  obtain ⟨A, c, h1, h2, h3, h4⟩ := h.file f hf
  rw [hb, hl]
  exact ⟨A, c, h1, h2, h3.at_block (fun ad e => ho.block _ (h4 ad e).2.2.1 (h4 ad e).1 (h4 ad e).2.1), fun ad e => ⟨(h4 ad e).1, (h4 ad e).2.1, Nat.lt_of_lt_of_le (h4 ad e).2.2.1 ho.size, (h4 ad e).2.2.2⟩⟩
theorem DiskAt.move {w w' : World} {d b : Nat} {sw : Bool} {V : Int → Value} {D : DS} (h : DiskAt X w d b sw V D) (hb : Below w.heap.size w w') : DiskAt X w' d b sw V D :=
  h.turn (OnlyD.of_below hb) ((hb.block d h.lt.1).trans h.cells) ((hb.block b h.lt.2).trans h.map) rfl rfl h.ok
theorem DiskAt.setArm {w : World} {d b : Nat} {sw : Bool} {V : Int → Value} {D : DS} (h : DiskAt X w d b sw V D) (x : Int) (h1 : -1 ≤ x) (h2 : x ≤ 9223372036854775807) : DiskAt X (w.setCell ⟨d, 1, none⟩ (.int .i64 x)) d b sw V { D with armed := x } :=
  h.turn ((OnlyD.refl _ _ _).setCell 1 _) (by rw [set_row h.cells]; rfl) (by rw [Below.heap_setCell _ _ _ _ h.ne.symm]; exact h.map) rfl rfl ⟨h.ok.last, h.ok.size, h1, h2, h.ok.lives, h.ok.steps⟩
theorem DiskAt.setOff {w : World} {d b : Nat} {sw : Bool} {V : Int → Value} {D : DS} (h : DiskAt X w d b sw V D) (x : Bool) : DiskAt X (w.setCell ⟨d, 2, none⟩ (.bool x)) d b sw V { D with off := x } :=
  h.turn ((OnlyD.refl _ _ _).setCell 2 _) (by rw [set_row h.cells]; rfl) (by rw [Below.heap_setCell _ _ _ _ h.ne.symm]; exact h.map) rfl rfl ⟨h.ok.last, h.ok.size, h.ok.arm1, h.ok.arm2, h.ok.lives, h.ok.steps⟩
theorem DiskAt.setLives {w : World} {d b : Nat} {sw : Bool} {V : Int → Value} {D : DS} (h : DiskAt X w d b sw V D) (x : Nat) (hx : x ≤ 1099511627776) : DiskAt X (w.setCell ⟨d, 3, none⟩ (.int .i64 (x : Int))) d b sw V { D with lives := x } :=
  h.turn ((OnlyD.refl _ _ _).setCell 3 _) (by rw [set_row h.cells]; rfl) (by rw [Below.heap_setCell _ _ _ _ h.ne.symm]; exact h.map) rfl rfl ⟨h.ok.last, h.ok.size, h.ok.arm1, h.ok.arm2, hx, h.ok.steps⟩
theorem DiskAt.setSteps {w : World} {d b : Nat} {sw : Bool} {V : Int → Value} {D : DS} (h : DiskAt X w d b sw V D) (x : Nat) (hx : x ≤ 1099511627776) : DiskAt X (w.setCell ⟨d, 4, none⟩ (.int .i64 (x : Int))) d b sw V { D with steps := x } :=
  h.turn ((OnlyD.refl _ _ _).setCell 4 _) (by rw [set_row h.cells]; rfl) (by rw [Below.heap_setCell _ _ _ _ h.ne.symm]; exact h.map) rfl rfl ⟨h.ok.last, h.ok.size, h.ok.arm1, h.ok.arm2, h.ok.lives, hx⟩

/-- a file, laid anew -/
def DS.put (D : DS) (f : Int) (xs : List UInt8) (l : Nat) : DS := { D with b := fun g => if g = f then xs else D.b g, l := fun g => if g = f then l else D.l g }
def putV (V : Int → Value) (f : Int) (v : Value) : Int → Value := fun g => if g = f then v else V g
theorem putV_two (V : Int → Value) {f : Int} (hf : f = 0 ∨ f = 1) (v : Value) : (if f = 0 then v else V 0) = putV V f v 0 ∧ (if f = 0 then V 1 else v) = putV V f v 1 := by
  rcases hf with rfl | rfl <;> simp [putV]
theorem DiskAt.put {w : World} {d b : Nat} {sw : Bool} {V : Int → Value} {D : DS} (h : DiskAt X w d b sw V D) {f : Int} (hf : f = 0 ∨ f = 1) {A : Option Addr} {n c l : Nat} {xs : List UInt8}
    (hr : Rd w A n (ub xs)) (hc : n ≤ c) (hA : ∀ ad, A = some ad → ad.block ≠ d ∧ ad.block ≠ b ∧ ad.block < w.heap.size ∧ X ad.block) (hl : l ≤ n) (hn : n ≤ 4194304) :
    DiskAt X (setBlock w b (.map (twoEs sw (if f = 0 then fileV A n c l else V 0) (if f = 0 then V 1 else fileV A n c l)) 2)) d b sw (putV V f (fileV A n c l)) (D.put f xs l) := by
  obtain rfl := hr.len
  obtain ⟨e0, e1⟩ := putV_two V hf (fileV A xs.length c l)
  rw [e0, e1]
  have ho : OnlyD d b w (setBlock w b (.map (twoEs sw (putV V f (fileV A xs.length c l) 0) (putV V f (fileV A xs.length c l) 1)) 2)) := (OnlyD.refl _ _ _).setBlock h.map _
  refine ⟨?_, heap_setBlock_same h.map _, fun g hg => ?_, ?_⟩
  · rw [heap_setBlock_other h.map _ h.ne]; exact h.cells
  · by_cases e : g = f
    · subst e
      refine ⟨A, c, by simp [putV, DS.put], by simpa [DS.put] using hc, ?_, fun ad e => ⟨(hA ad e).1, (hA ad e).2.1, Nat.lt_of_lt_of_le (hA ad e).2.2.1 ho.size, (hA ad e).2.2.2⟩⟩
      simpa [DS.put] using hr.at_block (fun ad e => ho.block _ (hA ad e).2.2.1 (hA ad e).1 (hA ad e).2.1)
    · obtain ⟨A', c', h1, h2, h3, h4⟩ := h.file g hg
      refine ⟨A', c', by simp [putV, DS.put, e, h1], by simpa [DS.put, e] using h2, ?_, fun ad e => ⟨(h4 ad e).1, (h4 ad e).2.1, Nat.lt_of_lt_of_le (h4 ad e).2.2.1 ho.size, (h4 ad e).2.2.2⟩⟩
      simpa [DS.put, e] using h3.at_block (fun ad e => ho.block _ (h4 ad e).2.2.1 (h4 ad e).1 (h4 ad e).2.1)
  · refine ⟨fun g => ?_, fun g => ?_, h.ok.arm1, h.ok.arm2, h.ok.lives, h.ok.steps⟩
    · simp only [DS.put]; split
      · exact hl
      · exact h.ok.last g
    · simp only [DS.put]; split
      · exact hn
      · exact h.ok.size g
end Go.Proofs.Ythcajaadbdiggaa
