/- Contracts of the operations of the document's disk. -/
import Derived.Test.YthcajaadbdiggaaRef4
import Derived.StillTailTactics
namespace Go.Proofs.Ythcajaadbdiggaa
set_option maxRecDepth 10000
open Go.RowKit

def RefPost (w : World) (r : Nat) (R : DS × Int) (e : Ending) (w' : World) : Prop := e = .returned (.int .i64 R.2) ∧ RefAt w' r R.1 ∧ OnlyD r r w w'
theorem stepB_ne {D : DS} (h : D.armed ≠ 0) : D.stepB = D.step := by unfold DS.stepB; rw [if_neg h]
theorem stepB_eq {D : DS} (h : D.armed = 0) : D.stepB = { D with off := true } := by unfold DS.stepB; rw [if_pos h]

theorem RefAt.fileF {w : World} {r : Nat} {D : DS} (h : w.heap[r]? = some (refCells D)) {f : Int} (hf : f = 0 ∨ f = 1) :
    w.cell? ⟨r, f.toNat, none⟩ = some (.string (txt (D.b f))) ∧ w.cell? ⟨r, 2 + f.toNat, none⟩ = some (.int .i64 (D.l f : Int)) ∧ ∀ j, w.frozen? ⟨r, j, none⟩ = false := by
  refine ⟨?_, ?_, fun j => free_row h j⟩
  · rw [cell_row h]; rcases hf with rfl | rfl <;> rfl
  · rw [cell_row h]; rcases hf with rfl | rfl <;> rfl
theorem ref_setB {w : World} {r : Nat} {D : DS} (h : w.heap[r]? = some (refCells D)) {f : Int} (hf : f = 0 ∨ f = 1) (xs : List UInt8) : (w.setCell ⟨r, f.toNat, none⟩ (.string (txt xs))).heap[r]? = some (refCells (D.put f xs (D.l f))) := by
  rw [set_row h]; rcases hf with rfl | rfl <;> simp [DS.put, refCells]
theorem ref_setL {w : World} {r : Nat} {D : DS} (h : w.heap[r]? = some (refCells D)) {f : Int} (hf : f = 0 ∨ f = 1) (l : Nat) : (w.setCell ⟨r, 2 + f.toNat, none⟩ (.int .i64 (l : Int))).heap[r]? = some (refCells (D.put f (D.b f) l)) := by
  rw [set_row h]; rcases hf with rfl | rfl <;> simp [DS.put, refCells]
theorem DS.put_ok {D : DS} (h : D.Ok) {f : Int} {xs : List UInt8} {l : Nat} (hl : l ≤ xs.length) (hn : xs.length ≤ 4194304) : (D.put f xs l).Ok := by
  refine ⟨fun g => ?_, fun g => ?_, h.arm1, h.arm2, h.lives, h.steps⟩
  · simp only [DS.put]; split
    · exact hl
    · exact h.last g
  · simp only [DS.put]; split
    · exact hn
    · exact h.size g
theorem put_put (D : DS) (f : Int) (xs ys : List UInt8) (l m : Nat) : (D.put f xs l).put f ys m = D.put f ys m := by
  simp only [DS.put]
  congr 1
  · funext g; by_cases h : g = f <;> simp [h]
  · funext g; by_cases h : g = f <;> simp [h]
theorem put_self (D : DS) (f : Int) (xs : List UInt8) (l : Nat) : (D.put f xs l).b f = xs ∧ (D.put f xs l).l f = l := by simp [DS.put]
set_option maxHeartbeats 1000000 in
theorem ref4app_calls (r : Nat) (D : DS) (f : Int) (ys : List UInt8) (w : World) (h : RefAt w r D) (hs : D.steps < 1099511627776) (hy : ys.length ≤ 4294967296) :
    Calls Try.prog 36 #[.pointer (some ⟨r, 0, none⟩), .int .i64 f, .string (txt ys)] w fun e w' => RefPost w r (D.appR f ys) e w' := by
  have hmay := ref4may_calls r D f w h
  by_cases hm : mayE D f = 0
  · have hf := mayE_in hm
    rw [hm] at hmay
    obtain ⟨f0, f1, ff⟩ := RefAt.fileF h.cells hf
    have hsz := h.ok.size f
    have hst := ref4step_calls r D w h hs
    have hfi : 0 ≤ f ∧ f < 2 := by omega
    obtain ⟨k, hk⟩ : ∃ k, (D.b f).length = k := ⟨_, rfl⟩
    obtain ⟨m, hym⟩ : ∃ m, ys.length = m := ⟨_, rfl⟩
    have hlen : (txt (D.b f)).size = k := hk
    have hlen2 : (txt ys).size = m := hym
    have hR : D.appR f ys = if 4194304 < k + m then (D, 8) else D.stepR (D.put f (D.b f ++ ys) (D.l f)) := by
      unfold DS.appR DS.askR
      rw [if_pos hm, hk, hym]
      by_cases hh : 4194304 < k + m
      · rw [if_pos hh, if_pos ⟨hm, hh⟩]
      · rw [if_neg hh, if_neg (fun h => hh h.2)]
    rw [hR]
    by_cases hfull : 4194304 < k + m
    · rw [if_pos hfull]
      have Hfin : Hid (RefPost w r (D, 8) (.returned (.int .i64 8)) w) := Lib.hid ⟨rfl, h, OnlyD.refl _ _ _⟩
      clear hst hR h
      go_enter Try.func36, Try.ntmps36
      go_wp2_with fail
      refine hmay.mono ?_
      rintro e w1 ⟨rfl, rfl⟩
      go_wp2_with fail
      go_ret
      exact Hfin.out
    · rw [if_neg hfull]
      unfold DS.stepR
      by_cases ha : D.armed = 0
      · rw [if_pos ha]
        rw [decide_eq_false (by simp [ha]), stepB_eq ha] at hst
        clear hR h
        go_enter Try.func36, Try.ntmps36
        go_wp2_with fail
        refine hmay.mono ?_
        rintro e w1 ⟨rfl, rfl⟩
        go_wp2_with fail
        refine hst.mono ?_
        rintro e w1 ⟨rfl, h1, ho⟩
        go_wp2_with fail
        go_ret
        exact ⟨rfl, h1, ho⟩
      · rw [if_neg ha]
        rw [decide_eq_true ha, stepB_ne ha] at hst
        have hok := h.ok
        clear hR h
        go_enter Try.func36, Try.ntmps36
        go_wp2_with fail
        refine hmay.mono ?_
        rintro e w1 ⟨rfl, rfl⟩
        go_wp2_with fail
        refine hst.mono ?_
        rintro e w1 ⟨rfl, h1, ho⟩
        clear f0 f1 ff
        obtain ⟨f0, f1, ff⟩ := RefAt.fileF h1.cells hf
        go_wp2_with fail
        have hp := ref_setB (w := w1.drew) h1.cells hf (D.b f ++ ys)
        have hadd := fun W => run_string_add_sum (P := Try.prog) (w := W) (txt (D.b f)) (txt ys) (by rw [hlen, hlen2]; omega)
        rw [txt_app] at hadd
        have ho2 := (ho.trans (OnlyD.of_below (Below.refl _ _).drew)).setCell f.toNat (.string (txt (D.b f ++ ys)))
        have hok2 : ((D.step).put f (D.b f ++ ys) (D.step.l f)).Ok := DS.put_ok h1.ok (by have := hok.last f; rw [List.length_append]; exact Nat.le_trans this (by omega)) (by rw [List.length_append]; omega)
        have Hfin : Hid (RefPost w r ((D.put f (D.b f ++ ys) (D.l f)).step, 0) (.returned (.int .i64 0)) (w1.drew.setCell ⟨r, f.toNat, none⟩ (.string (txt (D.b f ++ ys))))) := Lib.hid ⟨rfl, ⟨hp, hok2⟩, ho2⟩
        have f0' : w1.cell? ⟨r, f.toNat, none⟩ = some (.string (txt (D.b f))) := f0
        clear hp ho2 hok2 h1 ho f0
        go_still_tail 13, (by kernel_rfl)
        go_wp2_with fail
        go_ret
        exact Hfin.out
  · have hne : ((mayE D f) != 0) = true := by rw [bne_iff_ne]; exact hm
    have hp : ∀ w', OnlyD r r w w' → w'.heap[r]? = w.heap[r]? → RefPost w r (D.appR f ys) (.returned (.int .i64 (mayE D f))) w' := fun w' ho hb => by
      unfold DS.appR DS.askR
      rw [if_neg (fun hh => hm hh.1), if_neg hm]
      exact ⟨rfl, h.move hb, ho⟩
    have Hp := Lib.hid (hp w (OnlyD.refl _ _ _) rfl)
    clear hp h hm
    generalize mayE D f = E at *
    go_enter Try.func36, Try.ntmps36
    go_wp2_with fail
    refine hmay.mono ?_
    rintro e w1 ⟨rfl, rfl⟩
    go_wp2_with fail
    go_ret
    exact Hp.out

set_option maxHeartbeats 1000000 in
theorem ref4sync_calls (r : Nat) (D : DS) (f : Int) (w : World) (h : RefAt w r D) (hs : D.steps < 1099511627776) :
    Calls Try.prog 68 #[.pointer (some ⟨r, 0, none⟩), .int .i64 f] w fun e w' => RefPost w r (D.syncR f) e w' := by
  have hmay := ref4may_calls r D f w h
  by_cases hm : mayE D f = 0
  · have hf := mayE_in hm
    rw [hm] at hmay
    obtain ⟨f0, f1, ff⟩ := RefAt.fileF h.cells hf
    have hsz := h.ok.size f
    have hst := ref4step_calls r D w h hs
    have hfi : 0 ≤ f ∧ f < 2 := by omega
    obtain ⟨k, hk⟩ : ∃ k, (D.b f).length = k := ⟨_, rfl⟩
    have hlen : (txt (D.b f)).size = k := hk
    have hR : D.syncR f = D.stepR (D.put f (D.b f) (D.b f).length) := by
      unfold DS.syncR DS.askR
      rw [if_pos hm]
    rw [hR]
    unfold DS.stepR
    by_cases ha : D.armed = 0
    · rw [if_pos ha]
      rw [decide_eq_false (by simp [ha]), stepB_eq ha] at hst
      clear hR h
      go_enter Try.func68, Try.ntmps68
      go_wp2_with fail
      refine hmay.mono ?_
      rintro e w1 ⟨rfl, rfl⟩
      go_wp2_with fail
      refine hst.mono ?_
      rintro e w1 ⟨rfl, h1, ho⟩
      go_wp2_with fail
      go_ret
      exact ⟨rfl, h1, ho⟩
    · rw [if_neg ha]
      rw [decide_eq_true ha, stepB_ne ha] at hst
      have hok := h.ok
      clear hR h
      go_enter Try.func68, Try.ntmps68
      go_wp2_with fail
      refine hmay.mono ?_
      rintro e w1 ⟨rfl, rfl⟩
      go_wp2_with fail
      refine hst.mono ?_
      rintro e w1 ⟨rfl, h1, ho⟩
      clear f0 f1 ff
      obtain ⟨f0, f1, ff⟩ := RefAt.fileF h1.cells hf
      go_wp2_with fail
      have hp := ref_setL (w := w1.drew) h1.cells hf k
      have ho2 := (ho.trans (OnlyD.of_below (Below.refl _ _).drew)).setCell (2 + f.toNat) (.int .i64 (k : Int))
      have hok2 : ((D.step).put f (D.step.b f) k).Ok := DS.put_ok h1.ok (Nat.le_of_eq hk.symm) (by show (D.b f).length ≤ _; omega)
      have Hfin : Hid (RefPost w r ((D.put f (D.b f) (D.b f).length).step, 0) (.returned (.int .i64 0)) (w1.drew.setCell ⟨r, 2 + f.toNat, none⟩ (.int .i64 (k : Int)))) := Lib.hid (by rw [hk]; exact ⟨rfl, ⟨hp, hok2⟩, ho2⟩)
      have f0' : w1.cell? ⟨r, f.toNat, none⟩ = some (.string (txt (D.b f))) := f0
      clear hp ho2 hok2 h1 ho f0
      go_still_tail 12, (by kernel_rfl)
      go_wp2_with fail
      go_ret
      exact Hfin.out
  · have hne : ((mayE D f) != 0) = true := by rw [bne_iff_ne]; exact hm
    have hp : ∀ w', OnlyD r r w w' → w'.heap[r]? = w.heap[r]? → RefPost w r (D.syncR f) (.returned (.int .i64 (mayE D f))) w' := fun w' ho hb => by
      unfold DS.syncR DS.askR
      rw [if_neg hm]
      exact ⟨rfl, h.move hb, ho⟩
    have Hp := Lib.hid (hp w (OnlyD.refl _ _ _) rfl)
    clear hp h hm
    generalize mayE D f = E at *
    go_enter Try.func68, Try.ntmps68
    go_wp2_with fail
    refine hmay.mono ?_
    rintro e w1 ⟨rfl, rfl⟩
    go_wp2_with fail
    go_ret
    exact Hp.out

set_option maxHeartbeats 1000000 in
theorem ref4clear_calls (r : Nat) (D : DS) (f : Int) (w : World) (h : RefAt w r D) (hs : D.steps < 1099511627776) :
    Calls Try.prog 69 #[.pointer (some ⟨r, 0, none⟩), .int .i64 f] w fun e w' => RefPost w r (D.clearR f) e w' := by
  have hmay := ref4may_calls r D f w h
  by_cases hm : mayE D f = 0
  · have hf := mayE_in hm
    rw [hm] at hmay
    obtain ⟨f0, f1, ff⟩ := RefAt.fileF h.cells hf
    have hsz := h.ok.size f
    have hst := ref4step_calls r D w h hs
    have hfi : 0 ≤ f ∧ f < 2 := by omega
    obtain ⟨k, hk⟩ : ∃ k, (D.b f).length = k := ⟨_, rfl⟩
    have hlen : (txt (D.b f)).size = k := hk
    have hR : D.clearR f = D.stepR (D.put f [] 0) := by
      unfold DS.clearR DS.askR
      rw [if_pos hm]
    rw [hR]
    unfold DS.stepR
    by_cases ha : D.armed = 0
    · rw [if_pos ha]
      rw [decide_eq_false (by simp [ha]), stepB_eq ha] at hst
      clear hR h
      go_enter Try.func69, Try.ntmps69
      go_wp2_with fail
      refine hmay.mono ?_
      rintro e w1 ⟨rfl, rfl⟩
      go_wp2_with fail
      refine hst.mono ?_
      rintro e w1 ⟨rfl, h1, ho⟩
      go_wp2_with fail
      go_ret
      exact ⟨rfl, h1, ho⟩
    · rw [if_neg ha]
      rw [decide_eq_true ha, stepB_ne ha] at hst
      have hok := h.ok
      clear hR h
      go_enter Try.func69, Try.ntmps69
      go_wp2_with fail
      refine hmay.mono ?_
      rintro e w1 ⟨rfl, rfl⟩
      go_wp2_with fail
      refine hst.mono ?_
      rintro e w1 ⟨rfl, h1, ho⟩
      clear f0 f1 ff
      obtain ⟨f0, f1, ff⟩ := RefAt.fileF h1.cells hf
      go_wp2_with fail
      have ht : txt [] = (⟨#[]⟩ : ByteArray) := rfl
      have hp1 := ref_setB (w := w1.drew) h1.cells hf []
      have hp := ref_setL hp1 hf 0
      rw [(put_self _ _ _ _).1, put_put] at hp
      have ho2 := ((ho.trans (OnlyD.of_below (Below.refl _ _).drew)).setCell f.toNat (.string (txt []))).setCell (2 + f.toNat) (.int .i64 0)
      have hok2 : ((D.step).put f [] 0).Ok := DS.put_ok h1.ok (Nat.le_refl _) (by decide)
      have Hfin : Hid (RefPost w r ((D.put f [] 0).step, 0) (.returned (.int .i64 0)) ((w1.drew.setCell ⟨r, f.toNat, none⟩ (.string (txt []))).setCell ⟨r, 2 + f.toNat, none⟩ (.int .i64 0))) := Lib.hid ⟨rfl, ⟨hp, hok2⟩, ho2⟩
      rw [ht] at Hfin
      clear hp1 hp ho2 hok2 h1 ho
      go_region
      go_wp2_with fail
      go_ret
      exact Hfin.out
  · have hne : ((mayE D f) != 0) = true := by rw [bne_iff_ne]; exact hm
    have hp : ∀ w', OnlyD r r w w' → w'.heap[r]? = w.heap[r]? → RefPost w r (D.clearR f) (.returned (.int .i64 (mayE D f))) w' := fun w' ho hb => by
      unfold DS.clearR DS.askR
      rw [if_neg hm]
      exact ⟨rfl, h.move hb, ho⟩
    have Hp := Lib.hid (hp w (OnlyD.refl _ _ _) rfl)
    clear hp h hm
    generalize mayE D f = E at *
    go_enter Try.func69, Try.ntmps69
    go_wp2_with fail
    refine hmay.mono ?_
    rintro e w1 ⟨rfl, rfl⟩
    go_wp2_with fail
    go_ret
    exact Hp.out

theorem ref4read_calls (r : Nat) (D : DS) (f : Int) (w : World) (h : RefAt w r D) :
    Calls Try.prog 46 #[.pointer (some ⟨r, 0, none⟩), .int .i64 f] w fun e w' => e = .returned (.tuple #[.string (txt (readD D f).1), .int .i64 (readD D f).2]) ∧ w = w' := by
  have hmay := ref4may_calls r D f w h
  by_cases hm : mayE D f = 0
  · have hf := mayE_in hm
    rw [hm] at hmay
    obtain ⟨f0, f1, ff⟩ := RefAt.fileF h.cells hf
    have hfi : 0 ≤ f ∧ f < 2 := by omega
    have he : readD D f = (D.b f, 0) := by unfold readD; rw [if_pos hm]
    rw [he]
    clear he h
    go_enter Try.func46, Try.ntmps46
    go_wp2_with fail
    refine hmay.mono ?_
    rintro e w1 ⟨rfl, rfl⟩
    go_wp2_with fail
    go_ret2
    exact ⟨rfl, rfl⟩
  · have he : readD D f = ([], mayE D f) := by unfold readD; rw [if_neg hm]
    have hne : ((mayE D f) != 0) = true := by rw [bne_iff_ne]; exact hm
    rw [he]
    clear h hm he
    generalize mayE D f = E at *
    go_enter Try.func46, Try.ntmps46
    go_wp2_with fail
    refine hmay.mono ?_
    rintro e w1 ⟨rfl, rfl⟩
    go_wp2_with fail
    go_ret2
    exact ⟨rfl, rfl⟩
end Go.Proofs.Ythcajaadbdiggaa
