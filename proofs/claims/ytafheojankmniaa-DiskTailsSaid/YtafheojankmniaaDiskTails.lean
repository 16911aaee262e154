/- The walk of the law DiskTails. -/
import Derived.Test.YtafheojankmniaaDiskLaws
import Derived.Test.YtafheojankmniaaDiskPower
import Derived.Test.YtafheojankmniaaCutH
import Derived.Deep.QuietTactic
import Derived.BigQuiet
namespace Go.Proofs.Ytafheojankmniaa
open Go.RowKit

def tailN (zs : List Int) (j m : Nat) : Nat := min (max (zs.getD j 0) 0).toNat m
theorem tails_facts (xs ys : List UInt8) (zs : List Int) (hx : xs.length ≤ 1000) (hy : ys.length ≤ 1000) :
    readD ((((DS.new.appR 0 xs).1.appR 1 ys).1).power zs) 0 = (xs.take (tailN zs 0 xs.length), 0) ∧ readD ((((DS.new.appR 0 xs).1.appR 1 ys).1).power zs) 1 = (ys.take (tailN zs 1 ys.length), 0) ∧
      (DS.new.appR 0 xs).1.steps < 1099511627776 ∧ ((DS.new.appR 0 xs).1.appR 1 ys).1.lives < 1099511627776 := by
  have e1 : (DS.new.appR 0 xs).1 = (DS.new.put 0 xs 0).step := by
    rw [appR_ok rfl (by simp [DS.new]; omega) (by decide)]; simp [DS.new]
  have e2 : ((DS.new.appR 0 xs).1.appR 1 ys).1 = ((DS.new.put 0 xs 0).step.put 1 ys 0).step := by
    rw [e1, appR_ok (by simp [mayE, DS.new, DS.put, DS.step]) (by simp [DS.new, DS.put, DS.step]; omega) (by simp [DS.new, DS.put, DS.step])]; simp [DS.new, DS.put, DS.step]
  refine ⟨?_, ?_, ?_, ?_⟩
  · rw [e2]
    simp [readD, mayE, DS.power, DS.cuts, newL, DS.put, DS.step, DS.new, tailN]
  · rw [e2]
    simp [readD, mayE, DS.power, DS.cuts, newL, DS.put, DS.step, DS.new, tailN]
  · rw [e1]; simp [DS.put, DS.step, DS.new]
  · rw [e2]; simp [DS.put, DS.step, DS.new]

set_option maxHeartbeats 4000000 in
theorem disktails_walk (w : World) (A : Option Addr) (n cap : Nat) (xs : List UInt8) (hx : Rd w A n (ub xs)) (hn : n ≤ 140737488355328) (hc : n ≤ cap)
    (A2 : Option Addr) (n2 cap2 : Nat) (ys : List UInt8) (hy : Rd w A2 n2 (ub ys)) (hn2 : n2 ≤ 140737488355328) (hc2 : n2 ≤ cap2)
    (A3 : Option Addr) (n3 cap3 : Nat) (zs : List Int) (hz : Rd w A3 n3 (zs.map (Value.int .i64))) (hzb : ∀ z ∈ zs, -9223372036854775808 ≤ z ∧ z ≤ 9223372036854775807) (hn3 : n3 ≤ 140737488355328) (_hc3 : n3 ≤ cap3) :
    Calls Try.prog 3 #[.slice A n cap, .slice A2 n2 cap2, .slice A3 n3 cap3] w fun e w' => e = .returned (.bool true) ∧ Below w.heap.size w w' := by
  go_enter Try.func3, Try.ntmps3
  go_wp2_with fail
  refine (begun_calls _).mono ?_
  rintro e w1 ⟨rfl, hb1⟩
  by_cases h1 : n ≤ 1000
  · by_cases h2 : n2 ≤ 1000
    · by_cases h3 : n3 ≤ 10
      · obtain ⟨f1, f2, f3, f4⟩ := tails_facts xs ys zs (by rw [hx.len]; exact h1) (by rw [hy.len]; exact h2)
        go_wp2_with fail
        refine (new_calls Any _).mono ?_
        rintro e w2 ⟨d, b, V, rfl, hD, hd, hb, hb2⟩
        have hbel := below_then hb1 hb2
        have hdw : w.heap.size ≤ d ∧ w.heap.size ≤ b := by have := hb1.size; omega
        go_wp2_with fail
        refine (appR_calls 0 hD (hx.below hbel) (by omega) (fun _ _ => trivial) (by decide)).mono ?_
        generalize DS.new.appR 0 xs = R1 at *
        rintro e w3 ⟨rfl, ⟨V3, hD3⟩, ho3⟩
        have hbel3 := hbel.trans (ho3.below hdw.1 hdw.2 hbel.size)
        clear hD ho3 hb2 hb1
        go_wp2_with fail
        refine (appR_calls 1 hD3 (hy.below hbel3) (by omega) (fun _ _ => trivial) f3).mono ?_
        generalize R1.1.appR 1 ys = R2 at *
        rintro e w4 ⟨rfl, ⟨V4, hD4⟩, ho4⟩
        have hbel4 := hbel3.trans (ho4.below hdw.1 hdw.2 hbel3.size)
        clear hD3 ho4 hbel3 hbel
        go_wp2_with fail
        refine (power_calls d b false V4 R2.1 A3 n3 cap3 zs w4 hD4 (fun w' ho => hz.below (hbel4.trans (ho.below hdw.1 hdw.2 hbel4.size))) hzb (by omega) f4).mono ?_
        generalize R2.1.power zs = D5 at *
        rintro e w5 ⟨rfl, ⟨V5, hD5⟩, ho5⟩
        have hbel5 := hbel4.trans (ho5.below hdw.1 hdw.2 hbel4.size)
        clear hD4 ho5 hbel4
        go_wp2_with fail
        refine (read_calls d b false V5 D5 0 w5 hD5).mono ?_
        rw [f1]
        rintro e w6 ⟨⟨u, k, rfl, hk, hown⟩, hb6⟩
        have hD6 := hD5.move hb6
        have hbel6 := below_then hbel5 hb6
        clear hD5 hbel5 hb6
        go_wp2_with fail
        refine (read_calls d b false V5 D5 1 w6 hD6).mono ?_
        rw [f2]
        rintro e w7 ⟨⟨u2, k2, rfl, hk2, hown2⟩, hb7⟩
        have hown1 := own_below hown hb7
        have hbel7 := below_then hbel6 hb7
        clear hD6 hbel6 hb7 hown
        obtain ⟨q, hq⟩ : ∃ q, tailN zs 0 xs.length = q := ⟨_, rfl⟩
        obtain ⟨q2, hq2⟩ : ∃ q, tailN zs 1 ys.length = q := ⟨_, rfl⟩
        have hqn : q ≤ n := by rw [← hx.len, ← hq]; exact Nat.min_le_right _ _
        have hqn2 : q2 ≤ n2 := by rw [← hy.len, ← hq2]; exact Nat.min_le_right _ _
        simp only [hq] at hown1 hk
        simp only [hq2] at hown2 hk2
        obtain ⟨C, c, rfl, hcc, hrd⟩ := own_rd hown1
        obtain ⟨C2, c2, rfl, hcc2, hrd2⟩ := own_rd hown2
        obtain ⟨A', hcut, hA'⟩ := cut_h (P := Try.prog) Try.underlying22 (size_of_info info_u8d) A n cap q hqn hc
        obtain ⟨A2', hcut2, hA2'⟩ := cut_h (P := Try.prog) Try.underlying22 (size_of_info info_u8d) A2 n2 cap2 q2 hqn2 hc2
        have hlk : k = q := by rw [hk, List.length_take, hx.len]; omega
        have hlk2 : k2 = q2 := by rw [hk2, List.length_take, hy.len]; omega
        subst hlk hlk2
        have hs1 := fun N : Nat => run_str (P := Try.prog) (dst := 9) Try.underlying22 Try.underlying5 Try.underlying9 (hrd.below (below_drewN (Below.refl _ _) N)) c
        have hs2 := fun N : Nat => run_str (P := Try.prog) (dst := 9) Try.underlying22 Try.underlying5 Try.underlying9 (hrd2.below (below_drewN (Below.refl _ _) N)) c2
        have hs3 := fun N : Nat => run_str (P := Try.prog) (dst := 9) Try.underlying22 Try.underlying5 Try.underlying9 ((hA' _ _ (hx.below hbel7)).below (below_drewN (Below.refl _ _) N)) cap
        have hs4 := fun N : Nat => run_str (P := Try.prog) (dst := 9) Try.underlying22 Try.underlying5 Try.underlying9 ((hA2' _ _ (hy.below hbel7)).below (below_drewN (Below.refl _ _) N)) cap2
        have hz7 := hz.below hbel7
        have hlz := hz.1
        rw [List.length_map] at hlz
        have hxl := hx.len
        have hyl := hy.len
        generalize txt (xs.take k) = S1 at *
        generalize txt (ys.take k2) = S2 at *
        have hk0 : (0 : Int) ≤ k := by omega
        have hk20 : (0 : Int) ≤ k2 := by omega
        clear hown1 hown2 hrd hrd2 hA' hA2' hk hk2 hx hy hz
        unfold tailN at hq hq2
        rw [hxl] at hq
        rw [hyl] at hq2
        clear hxl hyl f1 f2 f3 f4
        by_cases hz0 : 0 < n3
        · obtain ⟨ad, u, rfl, hu, hcell⟩ := hz7.at_ hz0
          rw [List.getElem?_map] at hu
          obtain ⟨z, hzF, rfl⟩ := Option.map_eq_some_iff.1 hu
          rw [List.getD_eq_getElem?_getD, hzF, Option.getD_some] at hq
          have hzb0 := hzb z (List.mem_of_getElem? hzF)
          have hc0 : w7.cell? ad = some (.int .i64 z) := by rw [add_zero'] at hcell; exact hcell
          have hmx := fun W => run_max2 (P := Try.prog) #[3, 3] 3 z 0 W
          have hmn := fun W => run_min2 (P := Try.prog) #[3, 3] 3 (max z 0) n W
          rw [show min (max z 0) (n : Int) = k by omega] at hmn
          by_cases hz1 : 1 < n3
          · obtain ⟨ad', u, hh, hu, hcell⟩ := hz7.at_ hz1
            injection hh with hh
            subst hh
            rw [List.getElem?_map] at hu
            obtain ⟨z', hzF, rfl⟩ := Option.map_eq_some_iff.1 hu
            rw [List.getD_eq_getElem?_getD, hzF, Option.getD_some] at hq2
            have hzb1 := hzb z' (List.mem_of_getElem? hzF)
            have hmx2 := fun W => run_max2 (P := Try.prog) #[3, 3] 3 z' 0 W
            have hmn2 := fun W => run_min2 (P := Try.prog) #[3, 3] 3 (max z' 0) n2 W
            rw [show min (max z' 0) (n2 : Int) = k2 by omega] at hmn2
            have hc1 : w7.cell? ⟨ad.block, ad.off + 1, none⟩ = some (.int .i64 z') := by simpa [Addr.add] using hcell
            go_wp2_with fail
            go_quiet (fail)
            go_wp2_with fail
            go_ret
            exact ⟨rfl, below_drewN hbel7 _⟩
          · have h20 : k2 = 0 := by
              rw [List.getD_eq_getElem?_getD, List.getElem?_eq_none (by omega)] at hq2; simp at hq2; omega
            subst h20
            simp only [Int.natCast_zero] at hcut2
            go_wp2_with fail
            go_quiet (fail)
            go_wp2_with fail
            go_ret
            exact ⟨rfl, below_drewN hbel7 _⟩
        · have h10 : k = 0 := by
            rw [List.getD_eq_getElem?_getD, List.getElem?_eq_none (by omega)] at hq; simp at hq; omega
          have h20 : k2 = 0 := by
            rw [List.getD_eq_getElem?_getD, List.getElem?_eq_none (by omega)] at hq2; simp at hq2; omega
          subst h10 h20
          simp only [Int.natCast_zero] at hcut hcut2
          go_wp2_with fail
          go_quiet (fail)
          go_wp2_with fail
          go_ret
          exact ⟨rfl, below_drewN hbel7 _⟩
      · go_wp2_with fail
        go_ret
        exact ⟨rfl, hb1⟩
    · go_wp2_with fail
      go_ret
      exact ⟨rfl, hb1⟩
  · go_wp2_with fail
    go_ret
    exact ⟨rfl, hb1⟩
end Go.Proofs.Ytafheojankmniaa
