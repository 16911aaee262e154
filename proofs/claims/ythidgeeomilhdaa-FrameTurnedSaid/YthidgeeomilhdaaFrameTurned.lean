/- The walk of the law FrameTurned. -/
import Derived.Test.YthidgeeomilhdaaFrameLaws
import Derived.Test.YthidgeeomilhdaaScanMath
import Derived.Test.YthidgeeomilhdaaFrameAgain
namespace Go.Proofs.Ythidgeeomilhdaa
open Go.RowKit

theorem xor_u8 (x : UInt8) {c : Nat} (hc : c < 256) : bits BinOp.xor IntKind.u8 (x.toNat : Int) (c : Int) = ((x ^^^ UInt8.ofNat c).toNat : Int) := by
  rw [u8_xor_nat _ _ x.toNat_lt hc, UInt8.toNat_xor, UInt8.toNat_ofNat']; congr 2; exact (Nat.mod_eq_of_lt hc).symm
theorem ub_set' (xs : List UInt8) (j : Nat) (x : UInt8) : (ub xs).set j (.int .u8 (x.toNat : Int)) = ub (xs.set j x) := by simp [ub]

set_option maxRecDepth 10000 in
set_option maxHeartbeats 4000000 in
theorem frameturned_walk (w : World) (A : Option Addr) (m cap : Nat) (xs : List UInt8) (hx : Rd w A m (ub xs)) (hm : m ≤ 140737488355328) (hc : m ≤ cap) (A2 : Option Addr) (n cap2 : Nat) (rest : List UInt8) (hr : Rd w A2 n (ub rest)) (hn : n ≤ 140737488355328) (hc2 : n ≤ cap2)
    (a : Int) (ha1 : -9223372036854775808 ≤ a) (ha2 : a ≤ 9223372036854775807) (x : Nat) (hx8 : x < 256) :
    Calls Try.prog 6 #[.slice A m cap, .slice A2 n cap2, .int .i64 a, .int .u8 (x : Int)] w fun e w' => e = .returned (.bool true) ∧ Below w.heap.size w w' := by
  have hl := hx.len
  have hl2 := hr.len
  have hr0 := hr
  go_enter Try.func6, Try.ntmps6
  go_wp2_with fail
  refine (begun_calls _).mono ?_
  rintro e w1 ⟨rfl, hb1⟩
  have hx1 := hx.below hb1
  have hr1 := hr.below hb1
  clear hx hr
  by_cases h1 : m ≤ 4096
  · by_cases h2 : n ≤ 4096
    · go_wp2_with fail
      refine (fput_calls none A 0 0 m cap [] xs _ (Rd.none_ _ _) hx1 hc (by decide) (by omega)).mono ?_
      rintro e w2 ⟨⟨u, k, rfl, hk, hown⟩, hb2⟩
      rw [List.nil_append] at hown
      have hr2 := hr1.below hb2
      have hown0 := own_weaken hown (base' := w.heap.size) hb1.size
      have hbel := below_then hb1 hb2
      clear hx1 hr1 hb1 hb2 hown
      rcases hown0.2 with ⟨_, h0⟩ | ⟨g, c, cur, rfl, hgb, _⟩
      · omega
      have hel : (enc xs).length = k := by rw [enc_length]; omega
      have hk1 : 0 < k := by omega
      have hk2 : k ≤ 5000 := by omega
      clear hk
      go_wp2_with fail
      refine (place_calls a k _ (by omega) (by omega) ha1 ha2).mono ?_
      rintro e w3 ⟨rfl, rfl⟩
      obtain ⟨q, hq⟩ : ∃ q : Nat, a % (k : Int) = q := ⟨(a % (k : Int)).toNat, by have := Int.emod_nonneg a (b := (k : Int)) (by omega); omega⟩
      have hqr : q < k := by have := Int.emod_lt_of_pos a (b := (k : Int)) (by omega); omega
      rw [hq]
      have Hel := Lib.hid hel
      clear hq
      obtain ⟨y, hy⟩ : ∃ y, (enc xs)[q]? = some y := ⟨_, List.getElem?_eq_getElem (by omega)⟩
      clear hel
      have hcell := hown0.cellAt q (by omega)
      rw [ub_get, hy] at hcell
      have hcell2 : w2.cell? ⟨g, q, none⟩ = some (.int .u8 (y.toNat : Int)) := hcell
      have hfree := hown0.frozenAt q
      have hq1 : (q : Int) < k := by omega
      have Hown := Lib.hid hown0
      clear hown0 hcell
      have hst := Hown.out.stored q (.int .u8 ((y ^^^ UInt8.ofNat x).toNat : Int))
      rw [ub_set'] at hst
      obtain ⟨hown3, hg3⟩ := hst
      have hb3 : Below w.heap.size w (w2.setCell ⟨g, q, none⟩ (.int .u8 ((y ^^^ UInt8.ofNat x).toNat : Int))) := hbel.setCell (p := ⟨g, q, none⟩) hgb _
      have hr3 : Rd (w2.setCell ⟨g, q, none⟩ (.int .u8 ((y ^^^ UInt8.ofNat x).toNat : Int))) A2 n (ub rest) := hr0.below hb3
      have hz0 : x = 0 → (enc xs).set q (y ^^^ UInt8.ofNat x) = enc xs := by
        rintro rfl
        have : y ^^^ UInt8.ofNat 0 = y := by simp
        rw [this]
        exact List.ext_getElem? fun j => by
          by_cases hj : j = q
          · subst hj; rw [List.getElem?_set_self (by rw [Hel.out]; exact hqr), hy]
          · rw [List.getElem?_set_ne (fun e => hj e.symm)]
      have Hz0 := Lib.hid hz0
      clear hz0 hy hg3 hbel hr2 Hown
      generalize hZ : (enc xs).set q (y ^^^ UInt8.ofNat x) = zs at *
      clear hZ
      rw [← xor_u8 y hx8] at hown3 hb3 hr3
      go_wp2_with (at_builtin; refine wpList_app rfl (.tmp 42) (.tmp 43) _ rfl 5 (.int .u8 0) 1 Try.underlying22 info_u8 rfl (by decide) w.heap.size rfl hown3 rfl hr3 (ub_one _) ?_ ?_ ?_)
      case _ => omega
      case _ => exact hb3.size
      case _ =>
        intro v4 w4 hown4 hg4 _
        have hb4 := hb3.grown hg4 hb3.size (fun k hk => (own_base hown3 k hk))
        rw [← ub_append] at hown4
        have HZ : Hid (x = 0 → nextErr (zs ++ rest) 0 = 0) := Lib.hid (fun h => by rw [Hz0.out h]; exact (enc_next (xs := enc xs ++ rest) (a := 0) (r := xs) (post := rest) rfl (by omega)).1)
        generalize zs ++ rest = ys at *
        obtain ⟨M, hM⟩ : ∃ M, M = k + n := ⟨_, rfl⟩
        rw [← hM] at hown4
        have hMb : M ≤ 10000 := by omega
        clear hM
        obtain ⟨B, b, rfl, hMb2, hrd⟩ := own_rd hown4
        have hyl := hrd.len
        clear hown3 hg4 hb3 hr3 Hz0 hown4
        go_wp2_with fail
        refine (fnext_calls B M b ys 0 _ hrd hMb2 (by omega) (by omega)).mono ?_
        rintro e w5 ⟨hp, hb5⟩
        have hrd5 := hrd.below hb5
        have hbel := below_then hb4 hb5
        have hs5 := hbel.size
        clear hrd hb4 hb5
        rcases hp with ⟨h0, rfl⟩ | ⟨h0, g5, c5, rfl, ho5⟩
        · have hE : nextErr ys 0 ≤ 4 := by unfold nextErr; repeat' split
                                           all_goals omega
          have he0 : ((nextErr ys 0 : Int) != 0) = true := by rw [bne_iff_ne]; omega
          have hx0 : x ≠ 0 := fun h => h0 (HZ.out h)
          have hxi : ((x : Int) != 0) = true := by rw [bne_iff_ne]; omega
          clear h0 HZ
          generalize nextErr ys 0 = E at *
          go_wp2_with fail
          go_ret
          exact ⟨rfl, hbel⟩
        · have hne := next_enc h0
          have hok := next_ok h0
          have hbl := body_length h0
          rw [List.drop_zero] at hne
          rw [hyl] at hok
          obtain ⟨hok1, hok2, _⟩ := hok
          obtain ⟨_, hrb⟩ := own_rd' ho5
          generalize hK : 0 + 8 + recLen ys 0 = K at *
          generalize recBody ys 0 = body at *
          generalize recLen ys 0 = L at *
          have HK := Lib.hid hK
          clear hK
          clear HZ
          go_wp2_with fail
          refine (fput_calls none (some ⟨g5, 0, none⟩) 0 0 L c5 [] body _ (Rd.none_ _ _) hrb (own_rd' ho5).1 (by decide) hok2).mono ?_
          rintro e w6 ⟨⟨u6, k6, rfl, hk6, hown6⟩, hb6⟩
          rw [List.nil_append] at hown6
          obtain ⟨C, c6, rfl, _, hr6⟩ := own_rd hown6
          obtain rfl : k6 = K := by have := HK.out; omega
          clear hk6
          obtain ⟨A', hcut, hA'⟩ := cut_h (P := Try.prog) Try.underlying22 (size_of_info info_u8) B M b k6 hok1 hMb2
          have hs1 := fun N : Nat => run_str (P := Try.prog) (dst := 9) Try.underlying22 Try.underlying5 Try.underlying9 ((hA' _ _ (hrd5.below hb6)).below (below_drewN (Below.refl _ _) N)) b
          have hs2 := fun N : Nat => run_str (P := Try.prog) (dst := 9) Try.underlying22 Try.underlying5 Try.underlying9 (hr6.below (below_drewN (Below.refl _ _) N)) c6
          rw [hne] at hs1
          have hbel6 := below_then hbel hb6
          generalize txt (enc body) = S at *
          have hgi : (k6 : Int) ≤ M := by omega
          clear hA' hr6 hown6 ho5 hrb hrd5 hne h0
          go_wp2_with fail
          go_quiet (fail)
          go_wp2_with fail
          go_ret
          exact ⟨rfl, below_drewN hbel6 _⟩
    · go_wp2_with fail
      go_ret
      exact ⟨rfl, hb1⟩
  · go_wp2_with fail
    go_ret
    exact ⟨rfl, hb1⟩
end Go.Proofs.Ythidgeeomilhdaa
