/- The walk of the law DiskArmed. -/
import Derived.Test.YtafheojankmniaaDiskLaws
import Derived.Test.YtafheojankmniaaDiskPower
import Derived.Test.YtafheojankmniaaDiskR
import Derived.Test.YtafheojankmniaaLaw0
namespace Go.Proofs.Ytafheojankmniaa
open Go.RowKit

/-- an armed disk behind i steps of which N were let -/
structure ArmInv (D : DS) (N i sz ls : Nat) : Prop where
  armed : D.armed = ((N - i : Nat) : Int)
  off : D.off = decide (N < i)
  steps : D.steps = min i N
  size : (D.b 0).length = sz
  last : D.l 0 = ls
  le : ls ≤ sz
  most : sz ≤ i
  lives : D.lives = 0
theorem armInv_step {D D' : DS} {N i sz ls sz' ls' : Nat} (h : ArmInv D N i sz ls) (f : Int) (hf : f = 0 ∨ f = 1) (ha : D'.armed = D.armed) (hs : D'.steps = D.steps) (hl : D'.lives = D.lives) (ho : D'.off = D.off)
    (hb : (D'.b 0).length = sz') (hl0 : D'.l 0 = ls') (hle : ls' ≤ sz') (hm : sz' ≤ i + 1) :
    (i < N → (D.askR f D').2 = 0 ∧ ArmInv (D.askR f D').1 N (i + 1) sz' ls') ∧ (N ≤ i → (D.askR f D').2 = 6 ∧ ArmInv (D.askR f D').1 N (i + 1) sz ls) := by
  have hm0 : mayE D f = if N < i then 6 else 0 := by
    unfold mayE; rw [h.off]
    by_cases hh : N < i
    · simp [hh]
    · simp [hh, hf]
  refine ⟨fun hi => ?_, fun hi => ?_⟩
  · have h1 : mayE D f = 0 := by rw [hm0, if_neg (by omega)]
    have h2 : D.armed ≠ 0 := by rw [h.armed]; omega
    unfold DS.askR DS.stepR
    rw [if_pos h1, if_neg h2]
    refine ⟨rfl, ?_, ?_, ?_, hb, hl0, hle, hm, hl.trans h.lives⟩
    · show (if 0 < D'.armed then D'.armed - 1 else D'.armed) = _
      rw [ha, h.armed, if_pos (by omega)]; omega
    · show D'.off = _
      rw [ho, h.off, decide_eq_decide]; omega
    · show D'.steps + 1 = _
      rw [hs, h.steps]; omega
  · by_cases hlt : N < i
    · have h1 : mayE D f = 6 := by rw [hm0, if_pos hlt]
      unfold DS.askR
      rw [if_neg (by rw [h1]; decide), h1]
      refine ⟨rfl, ?_, ?_, ?_, h.size, h.last, h.le, by have := h.most; omega, h.lives⟩
      · rw [h.armed]; omega
      · rw [h.off, decide_eq_decide]; omega
      · rw [h.steps]; omega
    · have h1 : mayE D f = 0 := by rw [hm0, if_neg hlt]
      have h2 : D.armed = 0 := by rw [h.armed]; omega
      unfold DS.askR DS.stepR
      rw [if_pos h1, if_pos h2]
      refine ⟨rfl, ?_, ?_, ?_, h.size, h.last, h.le, by have := h.most; omega, h.lives⟩
      · show D.armed = _
        rw [h.armed]; omega
      · show true = _
        rw [eq_comm, decide_eq_true_eq]; omega
      · show D.steps = _
        rw [h.steps]; omega
theorem armInv_app {D : DS} {N i sz ls : Nat} (h : ArmInv D N i sz ls) (hi : i ≤ 30) : (i < N → (D.appR 0 [7]).2 = 0 ∧ ArmInv (D.appR 0 [7]).1 N (i + 1) (sz + 1) ls) ∧ (N ≤ i → (D.appR 0 [7]).2 = 6 ∧ ArmInv (D.appR 0 [7]).1 N (i + 1) sz ls) := by
  have e : D.appR 0 [7] = D.askR 0 (D.put 0 (D.b 0 ++ [7]) (D.l 0)) := by
    unfold DS.appR
    rw [if_neg (by rw [h.size]; have := h.most; simp; omega)]
  rw [e]
  exact armInv_step h 0 (.inl rfl) rfl rfl rfl rfl (by simp [DS.put, h.size]) (by simp [DS.put, h.last]) (by have := h.le; omega) (by have := h.most; omega)
theorem armInv_sync {D : DS} {N i sz ls : Nat} (h : ArmInv D N i sz ls) : (i < N → (D.syncR 0).2 = 0 ∧ ArmInv (D.syncR 0).1 N (i + 1) sz sz) ∧ (N ≤ i → (D.syncR 0).2 = 6 ∧ ArmInv (D.syncR 0).1 N (i + 1) sz ls) :=
  armInv_step h 0 (.inl rfl) rfl rfl rfl rfl (by simp [DS.put, h.size]) (by simp [DS.put, h.size]) (Nat.le_refl _) (by have := h.most; omega)
theorem armInv_clear {D : DS} {N i sz ls : Nat} (h : ArmInv D N i sz ls) : (i < N → (D.clearR 1).2 = 0 ∧ ArmInv (D.clearR 1).1 N (i + 1) sz ls) ∧ (N ≤ i → (D.clearR 1).2 = 6 ∧ ArmInv (D.clearR 1).1 N (i + 1) sz ls) :=
  armInv_step h 1 (.inr rfl) rfl rfl rfl rfl (by simp [DS.put, h.size]) (by simp [DS.put, h.last]) h.le (by have := h.most; omega)
theorem armInv_start (N : Nat) : ArmInv { DS.new with armed := max (N : Int) (-1) } N 0 0 0 :=
  ⟨by simp; omega, by simp [DS.new], by simp [DS.new], rfl, rfl, Nat.le_refl _, Nat.le_refl _, rfl⟩
/-- the end: power, what is read, and one more append -/
theorem armInv_end {D : DS} {N i sz ls : Nat} (h : ArmInv D N i sz ls) : (readD (D.power [1]) 0).2 = 0 ∧ (readD (D.power [1]) 0).1.length = ls + min (sz - ls) 1 ∧ (D.power [1]).off = false ∧ (sz ≤ 1000 → ((D.power [1]).appR 0 []).2 = 0) ∧ (D.power [1]).steps ≤ N := by
  have hr : readD (D.power [1]) 0 = ((D.power [1]).b 0, 0) := by simp [readD, mayE, DS.power]
  have hb : ((D.power [1]).b 0).length = ls + min (sz - ls) 1 := by
    have := h.le
    simp [DS.power, DS.cuts, newL, h.last, h.size]; omega
  refine ⟨by rw [hr], by rw [hr]; exact hb, rfl, fun hs => ?_, by show D.steps ≤ N; rw [h.steps]; omega⟩
  rw [appR_ok (by simp [mayE, DS.power]) (by have := h.le; rw [hb]; simp; omega) (by simp [DS.power])]
set_option maxRecDepth 10000 in
set_option maxHeartbeats 4000000 in
theorem diskarmed_walk (w : World) (n0 : Int) (hn1 : -9223372036854775808 ≤ n0) (hn2 : n0 ≤ 9223372036854775807) (A : Option Addr) (n cap : Nat) (xs : List UInt8) (hx : Rd w A n (ub xs)) (hn : n ≤ 140737488355328) (_hc : n ≤ cap) :
    Calls Try.prog 6 #[.int .i64 n0, .slice A n cap] w fun e w' => e = .returned (.bool true) ∧ Below w.heap.size w w' := by
  go_enter Try.func6, Try.ntmps6
  go_wp2_with fail
  refine (begun_calls _).mono ?_
  rintro e w1 ⟨rfl, hb1⟩
  by_cases h30 : n ≤ 30
  · go_wp2_with fail
    refine (place_calls n0 30 _ (by decide) (by decide) hn1 hn2).mono ?_
    rintro e w2 ⟨rfl, rfl⟩
    obtain ⟨N, hN⟩ : ∃ N : Nat, n0 % ((30 : Nat) : Int) = N := ⟨(n0 % 30).toNat, by omega⟩
    have hN30 : N < 30 := by omega
    rw [hN]
    clear hN hn1 hn2
    go_wp2_with fail
    refine (new_calls Any _).mono ?_
    rintro e w2 ⟨d, b, V, rfl, hD, hd, hb, hb2⟩
    have hbel := below_then hb1 hb2
    have hdw : w.heap.size ≤ d ∧ w.heap.size ≤ b := by have := hb1.size; omega
    clear hb1 hb2
    go_wp2_with fail
    refine (arm_calls d b false V DS.new (N : Int) w2 hD (by omega)).mono ?_
    rintro e w3 ⟨rfl, hD3, ho3⟩
    have hbel3 := hbel.trans (ho3.below hdw.1 hdw.2 hbel.size)
    have hI := Lib.hid (armInv_start N)
    generalize ({ DS.new with armed := max (N : Int) (-1) } : DS) = D3 at *
    clear hD ho3 hbel
    go_wp2_with fail
    go_loopw [6, 7, 8] (fun s l i wr => ∃ (k sz ls : Nat) (D : DS) (V' : Int → Value), k ≤ n ∧ i = .int .i64 k ∧ s = .int .i64 sz ∧ l = .int .i64 ls ∧ DiskAt Any wr d b false V' D ∧ Hid (ArmInv D N k sz ls) ∧ Below w.heap.size w wr) (fun _ _ i _ => n - (intOf i).toNat)
    case atStart => exact ⟨0, 0, 0, D3, V, Nat.zero_le _, rfl, rfl, rfl, hD3, hI, hbel3⟩
    case round =>
      clear hD3 hI hbel3
      obtain ⟨k, sz, ls, D, V', hk, rfl, rfl, rfl, hD, HI, hbel⟩ := hrel
      have hsz := HI.out.most
      by_cases hlt : k < n
      · obtain ⟨ad, x, rfl, hxk, hcell⟩ := (hx.below hbel).byte hlt
        have hk1 : (k : Int) < n := by omega
        have ia := armInv_app HI.out (by omega)
        have is_ := armInv_sync HI.out
        have ic := armInv_clear HI.out
        have hst : D.steps ≤ 30 := by rw [HI.out.steps]; omega
        clear HI hxk hx
        generalize hxv : (x.toNat : Int) = xv at *
        have hx0 : 0 ≤ xv ∧ xv < 256 := by have := x.toNat_lt; omega
        obtain ⟨m, hm⟩ : ∃ m, xv % 3 = m := ⟨_, rfl⟩
        clear hxv
        have hcase : m = 0 ∨ m = 1 ∨ m = 2 := by omega
        have hb7 := (Below.refl wr.heap.size wr).alloc (Nat.le_refl _) (.cells #[.int .u8 7] 5)
        have hr7 : Rd (wr.alloc (.cells #[.int .u8 7] 5)) (some ⟨wr.heap.size, 0, none⟩) 1 (ub [7]) := rd_one wr _ 5
        have hD7 := hD.move hb7
        have hbel7 := below_then hbel hb7
        have hmn := fun U => run_min2 (P := Try.prog) #[3, 3] 3 ((k : Int) + 1) (N : Int) U
        by_cases hkN : k < N
        · rw [show min ((k : Int) + 1) (N : Int) = ((k + 1 : Nat) : Int) by omega] at hmn
          have hkN' : (k : Int) < N := by omega
          rcases hcase with h0 | h0 | h0
          · have h0 : xv % 3 = 0 := by omega
            have ht : xv.tmod 3 = 0 := by rw [Int.tmod_eq_emod_of_nonneg hx0.1]; exact h0
            go_wp2_with fail
            refine (appR_calls 0 hD7 hr7 (by decide) (fun _ _ => trivial) (by omega)).mono ?_
            obtain ⟨e1, I1⟩ := ia.1 hkN
            generalize D.appR 0 [7] = R at *
            rintro e w5 ⟨rfl, ⟨V5, hD5⟩, ho5⟩
            rw [e1]
            have hbel5 := hbel7.trans (ho5.below hdw.1 hdw.2 hbel7.size)
            have hoff : R.1.off = false := by rw [I1.off]; exact decide_eq_false (by omega)
            have hste : R.1.steps = (k + 1 : Nat) := by rw [I1.steps]; omega
            have hdead := dead_calls d b false V5 R.1 w5 hD5
            have hsteps := steps_calls d b false V5 R.1 w5 hD5
            rw [hoff] at hdead
            rw [hste] at hsteps
            have HI2 := Lib.hid I1
            clear I1 ia is_ ic hD hD7 hbel hbel7 hb7 hr7 ho5 hoff hste e1
            go_wp2_with fail
            refine hdead.mono ?_
            rintro e w6 ⟨rfl, rfl⟩
            go_wp2_with fail
            refine hsteps.mono ?_
            rintro e w6 ⟨rfl, rfl⟩
            go_wp2_with fail
            go_roundw
            case rel => exact ⟨k + 1, _, _, R.1, V5, by omega, by go_num, by go_num, by go_num, hD5, HI2, hbel5⟩
            case measure => simp [intOf]; omega
          · have h0 : xv % 3 = 1 := by omega
            have ht : xv.tmod 3 = 1 := by rw [Int.tmod_eq_emod_of_nonneg hx0.1]; exact h0
            go_wp2_with fail
            refine (syncR_calls 0 hD (by omega)).mono ?_
            obtain ⟨e1, I1⟩ := is_.1 hkN
            generalize D.syncR 0 = R at *
            rintro e w5 ⟨rfl, ⟨V5, hD5⟩, ho5⟩
            rw [e1]
            have hbel5 := hbel.trans (ho5.below hdw.1 hdw.2 hbel.size)
            have hoff : R.1.off = false := by rw [I1.off]; exact decide_eq_false (by omega)
            have hste : R.1.steps = (k + 1 : Nat) := by rw [I1.steps]; omega
            have hdead := dead_calls d b false V5 R.1 w5 hD5
            have hsteps := steps_calls d b false V5 R.1 w5 hD5
            rw [hoff] at hdead
            rw [hste] at hsteps
            have HI2 := Lib.hid I1
            clear I1 ia is_ ic hD hD7 hbel hbel7 hb7 hr7 ho5 hoff hste e1
            go_wp2_with fail
            refine hdead.mono ?_
            rintro e w6 ⟨rfl, rfl⟩
            go_wp2_with fail
            refine hsteps.mono ?_
            rintro e w6 ⟨rfl, rfl⟩
            go_wp2_with fail
            go_roundw
            case rel => exact ⟨k + 1, _, _, R.1, V5, by omega, by go_num, by go_num, by go_num, hD5, HI2, hbel5⟩
            case measure => simp [intOf]; omega
          · have h0 : xv % 3 = 2 := by omega
            have ht : xv.tmod 3 = 2 := by rw [Int.tmod_eq_emod_of_nonneg hx0.1]; exact h0
            go_wp2_with fail
            refine (clearR_calls 1 hD (by omega)).mono ?_
            obtain ⟨e1, I1⟩ := ic.1 hkN
            generalize D.clearR 1 = R at *
            rintro e w5 ⟨rfl, ⟨V5, hD5⟩, ho5⟩
            rw [e1]
            have hbel5 := hbel.trans (ho5.below hdw.1 hdw.2 hbel.size)
            have hoff : R.1.off = false := by rw [I1.off]; exact decide_eq_false (by omega)
            have hste : R.1.steps = (k + 1 : Nat) := by rw [I1.steps]; omega
            have hdead := dead_calls d b false V5 R.1 w5 hD5
            have hsteps := steps_calls d b false V5 R.1 w5 hD5
            rw [hoff] at hdead
            rw [hste] at hsteps
            have HI2 := Lib.hid I1
            clear I1 ia is_ ic hD hD7 hbel hbel7 hb7 hr7 ho5 hoff hste e1
            go_wp2_with fail
            refine hdead.mono ?_
            rintro e w6 ⟨rfl, rfl⟩
            go_wp2_with fail
            refine hsteps.mono ?_
            rintro e w6 ⟨rfl, rfl⟩
            go_wp2_with fail
            go_roundw
            case rel => exact ⟨k + 1, _, _, R.1, V5, by omega, by go_num, by go_num, by go_num, hD5, HI2, hbel5⟩
            case measure => simp [intOf]; omega
        · rw [show min ((k : Int) + 1) (N : Int) = (N : Int) by omega] at hmn
          have hkN' : (N : Int) ≤ k := by omega
          rcases hcase with h0 | h0 | h0
          · have h0 : xv % 3 = 0 := by omega
            have ht : xv.tmod 3 = 0 := by rw [Int.tmod_eq_emod_of_nonneg hx0.1]; exact h0
            go_wp2_with fail
            refine (appR_calls 0 hD7 hr7 (by decide) (fun _ _ => trivial) (by omega)).mono ?_
            obtain ⟨e1, I1⟩ := ia.2 (by omega)
            generalize D.appR 0 [7] = R at *
            rintro e w5 ⟨rfl, ⟨V5, hD5⟩, ho5⟩
            rw [e1]
            have hbel5 := hbel7.trans (ho5.below hdw.1 hdw.2 hbel7.size)
            have hoff : R.1.off = true := by rw [I1.off]; exact decide_eq_true (by omega)
            have hste : R.1.steps = N := by rw [I1.steps]; omega
            have hdead := dead_calls d b false V5 R.1 w5 hD5
            have hsteps := steps_calls d b false V5 R.1 w5 hD5
            rw [hoff] at hdead
            rw [hste] at hsteps
            have HI2 := Lib.hid I1
            clear I1 ia is_ ic hD hD7 hbel hbel7 hb7 hr7 ho5 hoff hste e1
            go_wp2_with fail
            refine hdead.mono ?_
            rintro e w6 ⟨rfl, rfl⟩
            go_wp2_with fail
            refine hsteps.mono ?_
            rintro e w6 ⟨rfl, rfl⟩
            go_wp2_with fail
            go_roundw
            case rel => exact ⟨k + 1, _, _, R.1, V5, by omega, by go_num, by go_num, by go_num, hD5, HI2, hbel5⟩
            case measure => simp [intOf]; omega
          · have h0 : xv % 3 = 1 := by omega
            have ht : xv.tmod 3 = 1 := by rw [Int.tmod_eq_emod_of_nonneg hx0.1]; exact h0
            go_wp2_with fail
            refine (syncR_calls 0 hD (by omega)).mono ?_
            obtain ⟨e1, I1⟩ := is_.2 (by omega)
            generalize D.syncR 0 = R at *
            rintro e w5 ⟨rfl, ⟨V5, hD5⟩, ho5⟩
            rw [e1]
            have hbel5 := hbel.trans (ho5.below hdw.1 hdw.2 hbel.size)
            have hoff : R.1.off = true := by rw [I1.off]; exact decide_eq_true (by omega)
            have hste : R.1.steps = N := by rw [I1.steps]; omega
            have hdead := dead_calls d b false V5 R.1 w5 hD5
            have hsteps := steps_calls d b false V5 R.1 w5 hD5
            rw [hoff] at hdead
            rw [hste] at hsteps
            have HI2 := Lib.hid I1
            clear I1 ia is_ ic hD hD7 hbel hbel7 hb7 hr7 ho5 hoff hste e1
            go_wp2_with fail
            refine hdead.mono ?_
            rintro e w6 ⟨rfl, rfl⟩
            go_wp2_with fail
            refine hsteps.mono ?_
            rintro e w6 ⟨rfl, rfl⟩
            go_wp2_with fail
            go_roundw
            case rel => exact ⟨k + 1, _, _, R.1, V5, by omega, by go_num, by go_num, by go_num, hD5, HI2, hbel5⟩
            case measure => simp [intOf]; omega
          · have h0 : xv % 3 = 2 := by omega
            have ht : xv.tmod 3 = 2 := by rw [Int.tmod_eq_emod_of_nonneg hx0.1]; exact h0
            go_wp2_with fail
            refine (clearR_calls 1 hD (by omega)).mono ?_
            obtain ⟨e1, I1⟩ := ic.2 (by omega)
            generalize D.clearR 1 = R at *
            rintro e w5 ⟨rfl, ⟨V5, hD5⟩, ho5⟩
            rw [e1]
            have hbel5 := hbel.trans (ho5.below hdw.1 hdw.2 hbel.size)
            have hoff : R.1.off = true := by rw [I1.off]; exact decide_eq_true (by omega)
            have hste : R.1.steps = N := by rw [I1.steps]; omega
            have hdead := dead_calls d b false V5 R.1 w5 hD5
            have hsteps := steps_calls d b false V5 R.1 w5 hD5
            rw [hoff] at hdead
            rw [hste] at hsteps
            have HI2 := Lib.hid I1
            clear I1 ia is_ ic hD hD7 hbel hbel7 hb7 hr7 ho5 hoff hste e1
            go_wp2_with fail
            refine hdead.mono ?_
            rintro e w6 ⟨rfl, rfl⟩
            go_wp2_with fail
            refine hsteps.mono ?_
            rintro e w6 ⟨rfl, rfl⟩
            go_wp2_with fail
            go_roundw
            case rel => exact ⟨k + 1, _, _, R.1, V5, by omega, by go_num, by go_num, by go_num, hD5, HI2, hbel5⟩
            case measure => simp [intOf]; omega
      · obtain rfl : k = n := by omega
        obtain ⟨e1, e2, e3, e4, e5⟩ := armInv_end HI.out
        have hle := HI.out.le
        have hlv := HI.out.lives
        have e4 := e4 (by omega)
        have hba := (Below.refl wr.heap.size wr).alloc (Nat.le_refl _) (.cells #[.int .i64 1] 3)
        have x1 := alloc_new wr (.cells #[.int .i64 1] 3) _ rfl
        have hlt4 := hD.lt
        have hra : ∀ w', OnlyD d b (wr.alloc (.cells #[.int .i64 1] 3)) w' → Rd w' (some ⟨wr.heap.size, 0, none⟩) 1 ([1].map (Value.int .i64)) := fun w' ho =>
          Rd.of_row (r := []) ((ho.block _ (heap_lt x1) (by omega) (by omega)).trans x1) rfl rfl
        have hD1 := hD.move hba
        have hbel1 := below_then hbel hba
        clear hD hbel hba x1 hlt4 HI
        go_wp2_with fail
        generalize wr.alloc (.cells #[.int .i64 1] 3) = W1 at *
        refine (power_calls d b false V' D (some ⟨wr.heap.size, 0, none⟩) 1 1 [1] W1 hD1 hra (by decide) (by decide) (by omega)).mono ?_
        generalize D.power [1] = D5 at *
        rintro e w5 ⟨rfl, ⟨V5, hD5⟩, ho5⟩
        have hbel5 := hbel1.trans (ho5.below hdw.1 hdw.2 hbel1.size)
        clear hD1 hra hbel1 ho5
        go_wp2_with fail
        refine (read_calls d b false V5 D5 0 w5 hD5).mono ?_
        generalize readD D5 0 = RD at *
        rintro e w6 ⟨⟨u, m, rfl, hm, hown⟩, hb6⟩
        have hbel6 := below_then hbel5 hb6
        have hD6 := hD5.move hb6
        rw [e1]
        rw [e2] at hm
        obtain ⟨C, c, rfl, hcc, hrd⟩ := own_rd hown
        have hdead := dead_calls d b false V5 D5 w6 hD6
        rw [e3] at hdead
        have hmn := fun U => run_min2 (P := Try.prog) #[3, 3] 3 ((sz : Int) - (ls : Int)) 1 U
        obtain ⟨p, hp⟩ : ∃ p : Nat, min ((sz : Int) - (ls : Int)) 1 = p := ⟨min (sz - ls) 1, by omega⟩
        rw [hp] at hmn
        have hmp : (m : Int) = (ls : Int) + (p : Int) := by omega
        have hmp2 : m = ls + p := by omega
        subst hmp2
        have happ := appR_calls 0 (B := none) (m := 0) (cap := 0) (ys := []) hD6 (Rd.none_ _ _) (by decide) (fun _ _ => trivial) (by omega)
        have hbs : p ≤ 1 := by omega
        clear hm hp hmp hD5 hbel5 hb6 hown hrd
        go_wp2_with fail
        refine hdead.mono ?_
        rintro e w7 ⟨rfl, rfl⟩
        go_wp2_with fail
        refine happ.mono ?_
        rintro e w7 ⟨rfl, _, ho7⟩
        rw [e4]
        have hbel7 := hbel6.trans (ho7.below hdw.1 hdw.2 hbel6.size)
        clear happ hD6
        go_wp2_with fail
        go_ret
        exact ⟨rfl, hbel7⟩
  · go_wp2_with fail
    go_ret
    exact ⟨rfl, hb1⟩
end Go.Proofs.Ytafheojankmniaa
