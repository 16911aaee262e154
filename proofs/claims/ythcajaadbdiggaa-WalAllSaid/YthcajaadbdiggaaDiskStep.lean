/- Contract of the step of a disk. -/
import Derived.Test.YthcajaadbdiggaaDisk
namespace Go.Proofs.Ythcajaadbdiggaa
set_option maxRecDepth 10000
open Go.RowKit
open Go.ChangeMaps (setBlock heap_setBlock_same heap_setBlock_other)
variable {X : Nat → Prop}

/-- what a step that is done leaves -/
def DS.step (D : DS) : DS := { D with armed := if 0 < D.armed then D.armed - 1 else D.armed, steps := D.steps + 1 }
theorem DS.step_neg {D : DS} (hp : ¬ 0 < D.armed) : D.step = { D with steps := D.steps + 1 } := by unfold DS.step; rw [if_neg hp]
/-- a file, had there been a step -/
def stepPost (X : Nat → Prop) (w : World) (d b : Nat) (sw : Bool) (D D' : DS) (e : Ending) (w' : World) : Prop :=
  (∃ V', (D.armed = 0 ∧ e = .returned (.int .i64 6) ∧ DiskAt X w' d b sw V' { D with off := true }) ∨ (D.armed ≠ 0 ∧ e = .returned (.int .i64 0) ∧ DiskAt X w' d b sw V' D'.step)) ∧ OnlyD d b w w'

set_option maxHeartbeats 1000000 in
theorem step_calls (d b : Nat) (sw : Bool) (V : Int → Value) (D : DS) (f : Int) (hf : f = 0 ∨ f = 1) (A : Option Addr) (n c l : Nat) (xs : List UInt8) (w : World) (h : DiskAt X w d b sw V D)
    (hr : Rd w A n (ub xs)) (hc : n ≤ c) (hA : ∀ ad, A = some ad → ad.block ≠ d ∧ ad.block ≠ b ∧ ad.block < w.heap.size ∧ X ad.block) (hl : l ≤ n) (hn : n ≤ 4194304) (hs : D.steps < 1099511627776) :
    Calls Try.prog 52 #[.pointer (some ⟨d, 0, none⟩), .int .i64 f, fileV A n c l] w fun e w' => stepPost X w d b sw D (D.put f xs l) e w' := by
  have go : ∀ (u : World) (D2 : DS), DiskAt X u d b sw V D2 → Rd u A n (ub xs) → (∀ ad, A = some ad → ad.block ≠ d ∧ ad.block ≠ b ∧ ad.block < u.heap.size ∧ X ad.block) → True := fun _ _ _ _ _ => trivial
  clear go
  by_cases ha : D.armed = 0
  · have h2 := h.setOff true
    have ho2 := (OnlyD.refl d b w).setCell 2 (.bool true)
    have h3 := h2.move ((Below.refl (w.setCell ⟨d, 2, none⟩ (.bool true)).heap.size _).alloc (Nat.le_refl _) (.cells #[.slice A n c, .int .i64 (l : Int)] 69))
    have ho3 := ho2.trans (OnlyD.of_below (d := d) (b := b) ((Below.refl (w.setCell ⟨d, 2, none⟩ (.bool true)).heap.size _).alloc (Nat.le_refl _) (.cells #[.slice A n c, .int .i64 (l : Int)] 69)))
    obtain ⟨c0, c1, c2, c3, c4, cf⟩ := h.cell
    have hlt := h.lt
    have Hfin : Hid (stepPost X w d b sw D (D.put f xs l) (.returned (.int .i64 6)) ((w.setCell ⟨d, 2, none⟩ (.bool true)).alloc (.cells #[.slice A n c, .int .i64 (l : Int)] 69))) := Lib.hid ⟨⟨V, .inl ⟨ha, rfl, h3⟩⟩, ho3⟩
    clear h h2 h3 ho2 ho3 hr hA
    go_enter Try.func52, Try.ntmps52
    go_wp2_with fail
    go_ret
    exact Hfin.out
  · by_cases hp : 0 < D.armed
    · have h2 := h.setArm (D.armed - 1) (by omega) (by have := h.ok.arm2; omega)
      have ho2 := (OnlyD.refl d b w).setCell 1 (.int .i64 (D.armed - 1))
      have hr2 := hr.at_block (fun ad e => ho2.block _ (hA ad e).2.2.1 (hA ad e).1 (hA ad e).2.1)
      have hA2 : ∀ ad, A = some ad → ad.block ≠ d ∧ ad.block ≠ b ∧ ad.block < (w.setCell ⟨d, 1, none⟩ (.int .i64 (D.armed - 1))).heap.size ∧ X ad.block := fun ad e => ⟨(hA ad e).1, (hA ad e).2.1, Nat.lt_of_lt_of_le (hA ad e).2.2.1 ho2.size, (hA ad e).2.2.2⟩
      have hbw := (Below.refl (w.setCell ⟨d, 1, none⟩ (.int .i64 (D.armed - 1))).heap.size _).alloc (Nat.le_refl _) (.cells #[.slice A n c, .int .i64 (l : Int)] 69)
      have h3 := h2.move hbw
      have hr3 := hr2.below hbw
      have hA3 : ∀ ad, A = some ad → ad.block ≠ d ∧ ad.block ≠ b ∧ ad.block < ((w.setCell ⟨d, 1, none⟩ (.int .i64 (D.armed - 1))).alloc (.cells #[.slice A n c, .int .i64 (l : Int)] 69)).heap.size ∧ X ad.block := fun ad e => ⟨(hA2 ad e).1, (hA2 ad e).2.1, Nat.lt_of_lt_of_le (hA2 ad e).2.2.1 hbw.size, (hA2 ad e).2.2.2⟩
      have ho3 := ho2.trans (OnlyD.of_below (d := d) (b := b) hbw)
      have hsz : (w.setCell ⟨d, 1, none⟩ (.int .i64 (D.armed - 1))).heap.size = w.heap.size := by simp [World.setCell]
      have x3 := alloc_new (w.setCell ⟨d, 1, none⟩ (.int .i64 (D.armed - 1))) (.cells #[.slice A n c, .int .i64 (l : Int)] 69) _ rfl
      rw [hsz] at x3
      have y0 : ((w.setCell ⟨d, 1, none⟩ (.int .i64 (D.armed - 1))).alloc (.cells #[.slice A n c, .int .i64 (l : Int)] 69)).cell? ⟨w.heap.size, 0, none⟩ = some (.slice A n c) := by rw [cell_row x3]; rfl
      have y1 : ((w.setCell ⟨d, 1, none⟩ (.int .i64 (D.armed - 1))).alloc (.cells #[.slice A n c, .int .i64 (l : Int)] 69)).cell? ⟨w.heap.size, 1, none⟩ = some (.int .i64 (l : Int)) := by rw [cell_row x3]; rfl
      clear x3
      obtain ⟨c0, c1, c2, c3, c4, cf⟩ := h.cell
      have hlt := h.lt
      have ha1 := h.ok.arm1
      have ha2 := h.ok.arm2
      have hs1 := h3.ok.steps
      clear h hr hA hbw
      go_enter Try.func52, Try.ntmps52
      go_wp2_with fail
      clear c0 c1 c2 c3 c4 cf
      generalize (w.setCell ⟨d, 1, none⟩ (.int .i64 (D.armed - 1))).alloc (.cells #[.slice A n c, .int .i64 (l : Int)] 69) = W at *
      obtain ⟨d0, d1, d2, d3, d4, df⟩ := h3.cell
      go_still_tail 6, (by kernel_rfl)
      change wpList _ _ _ _ _ W.drew
      have h4 := h3.move ((Below.refl W.heap.size W).drew)
      have hr4 := hr3.below ((Below.refl W.heap.size W).drew)
      have ho4 := ho3.trans (OnlyD.of_below (d := d) (b := b) ((Below.refl W.heap.size W).drew))
      have hput := two_put (P := Try.prog) Try.underlying70 Try.underlying3 h4.map (fileV A n c l) hf
      have h5 := h4.put hf hr4 hc hA3 hl hn
      have ho5 := ho4.setBlock h4.map (.map (twoEs sw (if f = 0 then fileV A n c l else V 0) (if f = 0 then V 1 else fileV A n c l)) 2)
      clear h3 hr3 h4 hr4 ho3 ho4 d0 d1 d2 d3 d4 df y0 y1
      generalize W.drew = W2 at *
      generalize setBlock W2 b (.map (twoEs sw (if f = 0 then fileV A n c l else V 0) (if f = 0 then V 1 else fileV A n c l)) 2) = W3 at *
      obtain ⟨d0, d1, d2, d3, d4, df⟩ := h5.cell
      have h6 := h5.setSteps (D.steps + 1) (by omega)
      have ho6 := ho5.setCell 4 (.int .i64 ((D.steps + 1 : Nat) : Int))
      have e6 : ((D.steps + 1 : Nat) : Int) = (D.steps : Int) + 1 := by omega
      rw [e6] at h6 ho6
      have d4' : W3.cell? ⟨d, 4, none⟩ = some (.int .i64 (D.steps : Int)) := d4
      clear d4 e6 h5 ho5
      go_wp2_with fail
      go_ret
      have e : (D.put f xs l).step = { ({ D with armed := D.armed - 1 } : DS).put f xs l with steps := D.steps + 1 } := by simp [DS.step, DS.put, hp]
      exact ⟨⟨_, .inr ⟨ha, rfl, e ▸ h6⟩⟩, ho6⟩
    · have hbw := (Below.refl w.heap.size w).alloc (Nat.le_refl _) (.cells #[.slice A n c, .int .i64 (l : Int)] 69)
      have h3 := h.move hbw
      have hr3 := hr.below hbw
      have hA3 : ∀ ad, A = some ad → ad.block ≠ d ∧ ad.block ≠ b ∧ ad.block < (w.alloc (.cells #[.slice A n c, .int .i64 (l : Int)] 69)).heap.size ∧ X ad.block := fun ad e => ⟨(hA ad e).1, (hA ad e).2.1, Nat.lt_of_lt_of_le (hA ad e).2.2.1 hbw.size, (hA ad e).2.2.2⟩
      have ho3 := OnlyD.of_below (d := d) (b := b) hbw
      have x3 := alloc_new w (.cells #[.slice A n c, .int .i64 (l : Int)] 69) _ rfl
      have y0 : (w.alloc (.cells #[.slice A n c, .int .i64 (l : Int)] 69)).cell? ⟨w.heap.size, 0, none⟩ = some (.slice A n c) := by rw [cell_row x3]; rfl
      have y1 : (w.alloc (.cells #[.slice A n c, .int .i64 (l : Int)] 69)).cell? ⟨w.heap.size, 1, none⟩ = some (.int .i64 (l : Int)) := by rw [cell_row x3]; rfl
      clear x3
      obtain ⟨c0, c1, c2, c3, c4, cf⟩ := h.cell
      have hlt := h.lt
      have ha1 := h.ok.arm1
      have ha2 := h.ok.arm2
      have hs1 := h3.ok.steps
      clear h hr hA hbw
      go_enter Try.func52, Try.ntmps52
      go_wp2_with fail
      clear c0 c1 c2 c3 c4 cf
      generalize w.alloc (.cells #[.slice A n c, .int .i64 (l : Int)] 69) = W at *
      obtain ⟨d0, d1, d2, d3, d4, df⟩ := h3.cell
      go_still_tail 6, (by kernel_rfl)
      change wpList _ _ _ _ _ W.drew
      have h4 := h3.move ((Below.refl W.heap.size W).drew)
      have hr4 := hr3.below ((Below.refl W.heap.size W).drew)
      have ho4 := ho3.trans (OnlyD.of_below (d := d) (b := b) ((Below.refl W.heap.size W).drew))
      have hput := two_put (P := Try.prog) Try.underlying70 Try.underlying3 h4.map (fileV A n c l) hf
      have h5 := h4.put hf hr4 hc hA3 hl hn
      have ho5 := ho4.setBlock h4.map (.map (twoEs sw (if f = 0 then fileV A n c l else V 0) (if f = 0 then V 1 else fileV A n c l)) 2)
      clear h3 hr3 h4 hr4 ho3 ho4 d0 d1 d2 d3 d4 df y0 y1
      generalize W.drew = W2 at *
      generalize setBlock W2 b (.map (twoEs sw (if f = 0 then fileV A n c l else V 0) (if f = 0 then V 1 else fileV A n c l)) 2) = W3 at *
      obtain ⟨d0, d1, d2, d3, d4, df⟩ := h5.cell
      have h6 := h5.setSteps (D.steps + 1) (by omega)
      have ho6 := ho5.setCell 4 (.int .i64 ((D.steps + 1 : Nat) : Int))
      have e6 : ((D.steps + 1 : Nat) : Int) = (D.steps : Int) + 1 := by omega
      rw [e6] at h6 ho6
      have d4' : W3.cell? ⟨d, 4, none⟩ = some (.int .i64 (D.steps : Int)) := d4
      clear d4 e6 h5 ho5
      go_wp2_with fail
      go_ret
      have e : (D.put f xs l).step = { D.put f xs l with steps := D.steps + 1 } := DS.step_neg (D := D.put f xs l) (Int.not_lt.2 hp)
      exact ⟨⟨_, .inr ⟨ha, rfl, e ▸ h6⟩⟩, ho6⟩
end Go.Proofs.Ythcajaadbdiggaa
