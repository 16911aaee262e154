/- The walk of the law WalGoes. -/
import Derived.Test.YthcajaadbdiggaaWalGo
import Derived.Test.YthcajaadbdiggaaWalHelp
namespace Go.Proofs.Ythcajaadbdiggaa
set_option maxRecDepth 1000000
open Go.RowKit

/-- the state of the rounds -/
structure GoesAt (w0 : World) (p d b : Nat) (recs : List (List UInt8)) (k : Nat) (wr : World) : Prop where
  at_ : ∃ D W V, DiskAt (fun k => Any k ∧ k ≠ p) wr d b false V D ∧ wr.heap[p]? = some (walCells d W) ∧ Good D W ∧ W.recs = recs.take k ∧ W.bytes = (recs.take k).flatten.length + 9 * k + 26 ∧ D.steps ≤ 10 + 4 * k ∧ W.gen ≤ 1 + k ∧ D.lives = 0
  below : Below w0.heap.size w0 wr

set_option maxHeartbeats 8000000 in
theorem walgoes_walk (w : World) (A : Option Addr) (n cap : Nat) (recs : List (List UInt8)) (hr : RdL w A n recs) (hn : n ≤ 140737488355328) (hc : n ≤ cap) (T : Option Addr) (tn tcap : Nat) (turns : List Bool) (ht : Rd w T tn (turns.map Value.bool)) (htn : tn ≤ 140737488355328) (_htc : tn ≤ tcap) :
    Calls Try.prog 8 #[.slice A n cap, .slice T tn tcap] w fun e w' => e = .returned (.bool true) ∧ Below w.heap.size w w' := by
  go_enter Try.func8, Try.ntmps8
  go_wp2_with fail
  refine (begun_calls w).mono ?_
  rintro e w1 ⟨rfl, hbel1⟩
  by_cases h60 : 60 < n
  · go_wp2_with fail
    go_ret
    exact ⟨rfl, hbel1⟩
  by_cases ht60 : 60 < tn
  · go_wp2_with fail
    go_ret
    exact ⟨rfl, hbel1⟩
  go_wp2_with fail
  refine (sum0_calls A n cap recs 6000 w1 (hr.below hbel1) hn (by decide)).mono ?_
  rintro e w2 ⟨⟨r, rfl, hsum⟩, rfl⟩
  by_cases hrs : 6000 < r
  · go_wp2_with fail
    go_ret
    exact ⟨rfl, hbel1⟩
  have Hfl : Hid (recs.flatten.length ≤ 6000) := Lib.hid (by rw [← hsum (by omega)]; omega)
  clear hsum
  go_wp2_with fail
  refine (new_calls Any w1).mono ?_
  rintro e w2 ⟨d, b, V, rfl, hD, hd, hb, hb2⟩
  have hbel2 := below_then hbel1 hb2
  have hwd : w.heap.size ≤ d ∧ w.heap.size ≤ b := ⟨Nat.le_trans hbel1.size hd, Nat.le_trans hbel1.size hb⟩
  clear hbel1 hb2 hd hb
  go_wp2_with fail
  refine (open_calls (X := Any) d b false V DS.new w2 hD (fun _ _ => trivial) (by decide)).mono ?_
  intro e w3 hpost
  obtain ⟨p, B, m, c, rfl, ⟨V3, hD3⟩, hp3, hpw, -, -, ho3⟩ := hpost.some_ bg_one
  change DiskAt (fun k => Any k ∧ k ≠ p) w3 d b false V3 bo1.1 at hD3
  have hlt2 := hD.lt
  have hpd : p ≠ d ∧ p ≠ b := ⟨by omega, by omega⟩
  have hwp : w.heap.size ≤ p := Nat.le_trans hbel2.size hpw
  have hbel3 := hbel2.trans (ho3.below hwd.1 hwd.2 hbel2.size)
  have hS : ∀ k, P3 d b p k → w.heap.size ≤ k := fun k hk => by rcases hk with rfl | rfl | rfl <;> omega
  have HG : GoesAt w p d b recs 0 w3 := ⟨⟨bo1.1, bw1, V3, hD3, hp3, good_first, bw1_is.2.2.1, bw1_is.2.2.2.1, by rw [bo1_is.2.2.2.2.2]; decide, by rw [bw1_is.2.1]; decide, bo1_is.2.2.2.2.1⟩, hbel3⟩
  clear hpost hD hbel2 ho3 hlt2 hpw hD3 hp3 hbel3
  go_wp2_with fail
  go_loopw [9] (fun i wr => ∃ k : Nat, k ≤ n ∧ i = .int .i64 k ∧ GoesAt w p d b recs k wr) (fun i _ => n - (intOf i).toNat)
  case atStart => exact ⟨0, Nat.zero_le _, rfl, HG⟩
  case round =>
    clear HG
    obtain ⟨k, hk, rfl, ⟨D, W, V4, hD, hp, hG, hrec, hbytes, hst, hgen, hliv⟩, hbel⟩ := hrel
    have hk60 : k ≤ 60 := by omega
    have hflk := flat_take_le recs k
    have hfl := Hfl.out
    by_cases hlt : k < n
    · obtain ⟨ad, l, B4, c4, rfl, hl, hcell, _, hrl⟩ := (hr.below hbel).at_ hlt
      have e1 := flat_len hl
      have e2 := flat_le hl
      have e3 := take_snoc' hl
      have hlen : l.length ≤ 6000 := by omega
      have hmem := List.mem_of_getElem? hl
      obtain ⟨D1, hApp, hG1, hst1, hliv1⟩ := hG.app l (by omega) (by rw [← hG.size]; omega)
      have hW1r : (W.recs ++ [l]) = recs.take (k + 1) := by rw [hrec, e3]
      have hW1b : W.bytes + (l.length + 9) = (recs.take (k + 1)).flatten.length + 9 * (k + 1) + 26 := by omega
      have happ := wapp_calls p d b false V4 D W B4 l.length c4 l wr hp hD hpd (fun k h => h.2) (fun k hk => ⟨trivial, by have := heap_lt hp; omega⟩) (by omega) hrl (by omega) (by omega) (by rw [hrec, List.length_take]; omega)
      rw [hApp] at happ
      obtain ⟨W1, hW1⟩ : ∃ W1 : WS, W1 = { W with recs := W.recs ++ [l], bytes := W.bytes + (l.length + 9) } := ⟨_, rfl⟩
      rw [← hW1] at happ hG1
      have hr1 : W1.recs = recs.take (k + 1) := by rw [hW1]; exact hW1r
      have hbt1 : W1.bytes = (recs.take (k + 1)).flatten.length + 9 * (k + 1) + 26 := by rw [hW1]; exact hW1b
      have hgen1 : W1.gen ≤ 1 + k := by rw [hW1]; exact hgen
      have hk0 : (0 : Int) ≤ k := by omega
      have HX := Lib.hid (And.intro hG1 (And.intro hr1 (And.intro hbt1 (And.intro hgen1 (And.intro hst1 (And.intro hliv1 (And.intro hst (And.intro hliv e2))))))))
      clear hG hrec hbytes hst hgen hliv e1 e2 e3 hl hmem hApp hG1 hst1 hliv1 hW1r hW1b hW1 hr1 hbt1 hgen1 hD hp hflk hfl hrl
      go_wp2_with fail
      refine happ.mono ?_
      rintro e w2 ⟨rfl, ⟨V5, hD5⟩, hp5, ho5⟩
      change DiskAt _ w2 d b false V5 D1 at hD5
      change w2.heap[p]? = some (walCells d W1) at hp5
      have hbel5 := hbel.trans (ho5.below hS hbel.size)
      have hr5 := hr.below hbel5
      have ht5 := ht.below hbel5
      have HGo : Hid (GoesAt w p d b recs (k + 1) w2) := Lib.hid (by
        obtain ⟨x1, x2, x3, x4, x5, x6, x7, x8, x9⟩ := HX.out
        exact ⟨⟨D1, W1, V5, hD5, hp5, x1, x2, x3, by omega, by omega, by rw [x6, x8]⟩, hbel5⟩)
      clear happ ho5
      by_cases hkt : k < tn
      · obtain ⟨ad2, z, rfl, hz⟩ := bool_at ht5 hkt
        cases z
        · clear hD5 hp5 hbel5 hr5 ht5
          go_wp2_with fail
          go_roundw
          case rel => exact ⟨k + 1, by omega, by go_num, HGo.out⟩
          case measure => simp [intOf]; omega
        · clear HGo
          obtain ⟨x1, x2, x3, x4, x5, x6, x7, x8, x9⟩ := HX.out
          obtain ⟨A', hcut1, hcut2⟩ := cut_l (P := Try.prog) (t := 36) (e := 35) Try.underlying36 (by kernel_rfl) (some ad) n cap (k + 1) (by omega) hc
          have hrc := hcut2 w2 recs hr5
          have hf1 := Hfl.out
          obtain ⟨D2, hRew, hG2, hst2, hliv2, -, -⟩ := x1.half.rew (recs.take (k + 1)) (by rw [← x2]; exact x1.long) (by omega) (by rw [fileOf_length, List.length_take]; omega)
          have hrew := wrew_calls p d b false V5 D1 W1 A' (k + 1) cap (recs.take (k + 1)) w2 hp5 hD5 hpd (fun k h => h.2) (fun k hk => ⟨trivial, by have := heap_lt hp5; omega⟩) (by omega) hrc (by omega) (by omega) (by omega) (.inr x1.file)
          rw [hRew] at hrew
          obtain ⟨W2, hW2⟩ : ∃ W2 : WS, W2 = { W1 with f := otherF W1.f, gen := W1.gen + 1, recs := recs.take (k + 1), bytes := (fileOf (W1.gen + 1) (recs.take (k + 1))).length } := ⟨_, rfl⟩
          rw [← hW2] at hrew hG2
          have y1 : W2.recs = recs.take (k + 1) := by rw [hW2]
          have hlen1 : (recs.take (k + 1)).length = k + 1 := by have := hr.len; rw [List.length_take]; omega
          have y2 : W2.bytes = (recs.take (k + 1)).flatten.length + 9 * (k + 1) + 26 := by rw [hW2]; show (fileOf (W1.gen + 1) (recs.take (k + 1))).length = _; rw [fileOf_length, hlen1]
          have y3 : W2.gen ≤ 1 + (k + 1) := by rw [hW2]; show W1.gen + 1 ≤ _; omega
          have HY := Lib.hid (And.intro hG2 (And.intro y1 (And.intro y2 (And.intro y3 (And.intro (show D2.steps ≤ 10 + 4 * (k + 1) by omega) (show D2.lives = 0 by rw [hliv2, x6, x8]))))))
          have hcut3 : ∀ W : World, (Instr.slice 36 (.slice (some ad) n cap) none (some (.int .i64 ((k : Int) + 1))) none).run Try.prog W = .ok (.slice A' (k + 1) cap) W := hcut1
          clear x1 x2 x3 x4 x5 x6 x7 x8 x9 hcut1 hcut2 hrc hf1 hRew hG2 hst2 hliv2 hW2 y1 hlen1 y2 y3 hD5 hp5 hr5 ht5 HX
          go_wp2_with fail
          refine hrew.mono ?_
          rintro e w3 ⟨rfl, ⟨V6, hD6⟩, hp6, ho6⟩
          change DiskAt _ w3 d b false V6 D2 at hD6
          change w3.heap[p]? = some (walCells d W2) at hp6
          have hbel6 := hbel5.trans (ho6.below hS hbel5.size)
          obtain ⟨z1, z2, z3, z4, z5, z6⟩ := HY.out
          have HGo : Hid (GoesAt w p d b recs (k + 1) w3) := Lib.hid ⟨⟨D2, W2, V6, hD6, hp6, z1, z2, z3, z5, z4, z6⟩, hbel6⟩
          clear z1 z2 z3 z4 z5 z6 HY hD6 hp6 hbel6 ho6 hrew hbel5
          go_wp2_with fail
          go_roundw
          case rel => exact ⟨k + 1, by omega, by go_num, HGo.out⟩
          case measure => simp [intOf]; omega
      · clear hD5 hp5 hbel5 hr5 ht5
        go_wp2_with fail
        go_roundw
        case rel => exact ⟨k + 1, by omega, by go_num, HGo.out⟩
        case measure => simp [intOf]; omega
    · obtain rfl : k = n := by omega
      have hkl := hr.len
      rw [List.take_of_length_le (by omega)] at hrec hbytes
      obtain ⟨D1, hSync, hG1, hst1, hliv1, hlast⟩ := hG.sync
      have hsync := wsync_calls p d b false V4 D W wr hp hD hpd (fun k h => h.2) (by omega)
      rw [hSync] at hsync
      obtain ⟨hOpen, hFirst, hG2, hliv2, hst2⟩ := hG1.power hlast []
      have HY := Lib.hid (And.intro hOpen (And.intro hFirst (And.intro hrec (And.intro (show D1.lives < 1099511627776 by omega) (And.intro (show (D1.power []).steps + 3 < 1099511627776 by omega) (And.intro (show D1.lives = 0 by omega) (And.intro hG1.over (And.intro hG2.over (show wOver (D1.power []) W = true by unfold wOver; rw [hliv2, hG1.live]; simp)))))))))
      have hWn : (W.recs.length : Int) = (k : Int) := by rw [hrec, hkl]
      clear hG hrec hbytes hst hgen hliv hSync hG1 hst1 hliv1 hlast hOpen hFirst hG2 hliv2 hst2 hp hD hflk hfl hkl
      go_wp2_with fail
      refine hsync.mono ?_
      rintro e w2 ⟨rfl, ⟨V5, hD5⟩, hp5, ho5⟩
      change DiskAt _ w2 d b false V5 D1 at hD5
      change w2.heap[p]? = some (walCells d W) at hp5
      have hbel5 := hbel.trans (ho5.below hS hbel.size)
      have hcnt := wcount_calls p d b false V5 D1 W w2 hp5 hD5
      rw [HY.out.2.2.2.2.2.2.1, if_neg (by simp), hWn] at hcnt
      clear hsync ho5
      go_wp2_with fail
      refine hcnt.mono ?_
      rintro e w3 ⟨rfl, m3, rfl⟩
      have hb3 := below_drewN (Below.refl w2.heap.size w2) m3
      have hD6 := hD5.move hb3
      have hp6 := (hb3.block p (heap_lt hp5)).trans hp5
      have hbel6 := below_then hbel5 hb3
      clear hD5 hp5 hbel5 hb3 hcnt
      generalize w2.drewN m3 = w3 at *
      go_wp2_with fail
      refine (power_calls d b false V5 D1 none 0 0 [] w3 hD6 (fun w' _ => Rd.none_ _ _) (by simp) (by decide) HY.out.2.2.2.1).mono ?_
      rintro e w4 ⟨rfl, ⟨V7, hD7⟩, ho7⟩
      have hp7 := (ho7.block p (heap_lt hp6) hpd.1 hpd.2).trans hp6
      have hbel7 := hbel6.trans (ho7.below hwd.1 hwd.2 hbel6.size)
      clear hD6 hp6 hbel6 ho7
      go_wp2_with fail
      refine (open_calls (X := fun k => Any k ∧ k ≠ p) d b false V7 (D1.power []) w4 hD7 (fun k hk => ⟨trivial, by have := heap_lt hp7; omega⟩) HY.out.2.2.2.2.1).mono ?_
      intro e w5 hpost
      obtain ⟨p2, B7, m7, c7, rfl, ⟨V8, hD8⟩, hp28, hpw2, hrl, hmc7, ho8⟩ := hpost.some_ (by rw [HY.out.1])
      rw [HY.out.1] at hD8
      rw [HY.out.2.1] at hrl
      change RdL w5 B7 m7 W.recs at hrl
      rw [HY.out.2.2.1] at hrl
      have hp8 := (ho8.block p (heap_lt hp7) hpd.1 hpd.2).trans hp7
      have hbel8 := hbel7.trans (ho8.below hwd.1 hwd.2 hbel7.size)
      have hr8 := hr.below hbel8
      have hm7 : m7 = k := by rw [← hrl.len, hr.len]
      subst hm7
      clear hpost hD7 hp7 hbel7 ho8 hpw2
      go_wp2_with fail
      refine (texts_calls A _ cap recs w5 hr8 (by omega)).mono ?_
      rintro e w6 ⟨⟨v, rfl, hown⟩, hb6⟩
      obtain ⟨B9, c9, rfl, hc9, hrd9⟩ := own_rd hown
      have hrl9 := hrl.below hb6
      have hD9 := hD8.move hb6
      have hp9 := (hb6.block p (heap_lt hp8)).trans hp8
      have hp29 := (hb6.block p2 (heap_lt hp28)).trans hp28
      have hbel9 := below_then hbel8 hb6
      have halike := alike_calls B7 B9 _ _ c7 c9 recs recs w6 hrl9 hrd9 hn hn
      rw [decide_eq_true rfl] at halike
      clear hown hb6 hrl hD8 hp8 hp28 hbel8 hr8 hrd9 hrl9
      go_wp2_with fail
      refine halike.mono ?_
      rintro e w7 ⟨rfl, m7, rfl⟩
      have hb3 := below_drewN (Below.refl w6.heap.size w6) m7
      have hD10 := hD9.move hb3
      have hp10 := (hb3.block p (heap_lt hp9)).trans hp9
      have hp210 := (hb3.block p2 (heap_lt hp29)).trans hp29
      have hbel10 := below_then hbel9 hb3
      clear hD9 hp9 hp29 hbel9 hb3 halike
      generalize w6.drewN m7 = w7 at *
      have hcv := wcount_calls p2 d b false V8 (D1.power []) _ w7 hp210 hD10
      rw [HY.out.2.2.2.2.2.2.2.1, if_neg (by simp)] at hcv
      change Calls _ _ _ _ (fun e w' => e = .returned (.int .i64 (W.recs.length : Int)) ∧ _) at hcv
      rw [hWn] at hcv
      go_wp2_with fail
      refine hcv.mono ?_
      rintro e w8 ⟨rfl, m8, rfl⟩
      have hb3 := below_drewN (Below.refl w7.heap.size w7) m8
      have hD11 := hD10.move hb3
      have hp11 := (hb3.block p (heap_lt hp10)).trans hp10
      have hbel11 := below_then hbel10 hb3
      clear hD10 hp10 hp210 hbel10 hb3 hcv
      generalize w7.drewN m8 = w8 at *
      have hcw := wcount_calls p d b false V8 (D1.power []) W w8 hp11 hD11
      rw [HY.out.2.2.2.2.2.2.2.2, if_pos rfl] at hcw
      go_wp2_with fail
      refine hcw.mono ?_
      rintro e w9 ⟨rfl, m9, rfl⟩
      have hb3 := below_drewN (Below.refl w8.heap.size w8) m9
      have hD12 := hD11.move hb3
      have hp12 := (hb3.block p (heap_lt hp11)).trans hp11
      have hbel12 := below_then hbel11 hb3
      clear hD11 hp11 hbel11 hb3 hcw
      generalize w8.drewN m9 = w9 at *
      have hbw := wbytes_calls p d b false V8 (D1.power []) W w9 hp12 hD12
      rw [HY.out.2.2.2.2.2.2.2.2, if_pos rfl] at hbw
      go_wp2_with fail
      refine hbw.mono ?_
      rintro e w10 ⟨rfl, m10, rfl⟩
      have hbel13 := below_then hbel12 (below_drewN (Below.refl w9.heap.size w9) m10)
      clear hD12 hp12 hbel12 hbw
      go_wp2_with fail
      go_ret
      exact ⟨rfl, hbel13⟩
end Go.Proofs.Ythcajaadbdiggaa
