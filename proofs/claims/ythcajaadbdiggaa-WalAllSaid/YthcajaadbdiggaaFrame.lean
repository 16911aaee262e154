/- Contracts of frame.Put, frame.Next, frame.Scan. -/
import Derived.Test.YthcajaadbdiggaaRows
import Derived.Test.YthcajaadbdiggaaOwn
import Derived.Test.YthcajaadbdiggaaSum
import Derived.Test.YthcajaadbdiggaaLaw0
import Derived.Test.YthcajaadbdiggaaBits
import Derived.Test.YthcajaadbdiggaaFrameMath
namespace Go.Proofs.Ythcajaadbdiggaa
open Go.RowKit

theorem own_weaken {w : World} {base base' : Nat} {e : TypeId} {size n : Nat} {v : Value} {xs : List Value} (h : w.ownsRow base e size v n xs) (hb : base' ≤ base) : w.ownsRow base' e size v n xs :=
  ⟨h.1, h.2.imp id (fun ⟨g, cap, cur, h1, h2, h3⟩ => ⟨g, cap, cur, h1, Nat.le_trans hb h2, h3⟩)⟩
theorem pow32 : 2 ^ (8 * 4) = 4294967296 := by decide

set_option maxHeartbeats 2000000 in
theorem fput_calls (A A2 : Option Addr) (m cap n cap2 : Nat) (xs r : List UInt8) (w : World) (hx : Rd w A m (ub xs)) (hr : Rd w A2 n (ub r)) (hc2 : n ≤ cap2) (hm : m ≤ 268435456) (hn : n ≤ 1048576) :
    Calls Try.prog 55 #[.slice A m cap, .slice A2 n cap2] w fun e w' => (∃ u k, e = .returned (.tuple #[u, .int .i64 0]) ∧ k = m + n + 8 ∧ w'.ownsRow w.heap.size 5 1 u k (ub (xs ++ enc r))) ∧ Below w.heap.size w w' := by
  have hlr := hr.len
  have hmk := run_make_nc (P := Try.prog) 35 5 (.int .u8 0) 1 Try.underlying35 info_u8 0 (m + 8 + n) 0 ((m : Int) + 8 + (n : Int)) (by omega) (by omega) (by omega) (by omega) (by omega)
  go_enter Try.func55, Try.ntmps55
  go_wp2_with fail
  refine (put_calls none 0 0 [] n 4 _ (Rd.none_ _ _) (by decide) (by decide) (by decide) (by rw [pow32]; omega) (by omega)).mono ?_
  rintro e w1 ⟨⟨u, rfl, hown⟩, hb1⟩
  rw [List.nil_append] at hown
  obtain ⟨C, c, rfl, hc4, hsz⟩ := own_rd hown
  have hx1 := hx.below hb1
  have hr1 := hr.below hb1
  clear hown hx hr
  generalize hS : be 4 n = S at hsz
  have hSl := hsz.len
  have hb2 := hb1.alloc hb1.size (.cells (madeCells #[.int .u8 0] (m + 8 + n)) 5)
  have hbw := (Below.refl w1.heap.size w1).alloc (Nat.le_refl _) (.cells (madeCells #[.int .u8 0] (m + 8 + n)) 5)
  have hx2 := hx1.below hbw
  have hown2 := own_made w1 (Nat.le_refl w1.heap.size) 5 #[.int .u8 0] (m + 8 + n) (by unfold maxLen; omega)
  clear hx1 hb2
  go_wp2_with (at_builtin; refine wpList_app rfl (.tmp 25) (.tmp 26) _ rfl 5 (.int .u8 0) 1 Try.underlying35 info_u8 rfl (by decide) w1.heap.size rfl hown2 rfl hx2 (ub_one _) ?_ hbw.size ?_)
  case _ => omega
  case _ =>
    intro v2 w2 hown3 hg2 _
    have hb2 := hbw.grown hg2 hbw.size (fun k hk => (own_base hown2 k hk))
    obtain ⟨D, d, rfl, _, _⟩ := own_rd hown3
    have hs3 := hsz.below hb2
    clear hown2 hg2 hbw hx2
    go_wp2_with (at_builtin; refine wpList_app rfl (.tmp 29) (.tmp 30) _ rfl 5 (.int .u8 0) 1 Try.underlying35 info_u8 rfl (by decide) w1.heap.size rfl hown3 rfl hs3 (ub_one _) ?_ hb2.size ?_)
    case _ => omega
    case _ =>
      intro v3 w3 hown4 hg3 _
      have hb3 := hb2.grown hg3 hb2.size (fun k hk => (own_base hown3 k hk))
      obtain ⟨E, e4, rfl, hE, hrd4⟩ := own_rd hown4
      have hs4 := hsz.below hb3
      have hr4 := hr1.below hb3
      have htwo := rdl_two_at (c := c) (d := cap2) hs4 hc4 hr4 hc2 35 w3.heap.size rfl
      have hb4 := hb3.alloc hb3.size (.cells #[.slice C (0 + 4) c, .slice A2 n cap2] 35)
      have hrd5 := hrd4.below ((Below.refl w3.heap.size w3).alloc (Nat.le_refl _) (.cells #[.slice C (0 + 4) c, .slice A2 n cap2] 35))
      clear hown3 hown4 hg3 hb2 hs3 hs4 hr4 hb3 hrd4
      rw [← ub_append] at hrd5
      have hcl := CRC.crc_lt 0 (nat8 (S ++ r))
      go_wp2_with fail
      refine (of_calls _ 2 2 [S, r] _ htwo (by decide) (fun l hl => by simp at hl; rcases hl with rfl | rfl <;> omega)).mono ?_
      rintro e w5 ⟨rfl, rfl⟩
      rw [show [S, r].flatten = S ++ r from by simp]
      clear htwo
      generalize hR : CRC.crc 0 (nat8 (S ++ r)) = R at *
      go_wp2_with fail
      refine (put_calls E _ e4 (xs ++ S) R 4 _ hrd5 (by omega) (by decide) (by decide) (by rw [pow32]; exact hcl) (by omega)).mono ?_
      rintro e w5 ⟨⟨u5, rfl, hown5⟩, hb5⟩
      obtain ⟨F, f5, rfl, hF, _⟩ := own_rd hown5
      have hb5b := hb4.size
      have hb6 := hb4.trans (hb5.mono hb4.size)
      have hr6 := hr1.below hb6
      have hsz6 := hb6.size
      clear hrd5 hb4 hb5
      go_wp2_with (at_builtin; refine wpList_app rfl (.tmp 40) (.tmp 41) _ rfl 5 (.int .u8 0) 1 Try.underlying35 info_u8 rfl (by decide) w1.heap.size rfl (own_weaken hown5 ?_) rfl hr6 (ub_one _) ?_ hb6.size ?_)
      case _ => exact hb5b
      case _ => omega
      case _ =>
        intro v7 w7 hown7 hg7 _
        have hb7 := hb6.grown hg7 hb6.size (fun k hk => (own_base (own_weaken hown5 hb5b) k hk))
        obtain ⟨G, g7, rfl, _, _⟩ := own_rd hown7
        have hfin : w7.ownsRow w.heap.size 5 1 (.slice G (m + 4 + 4 + n) g7) (m + 4 + 4 + n) (ub (xs ++ enc r)) := by
          refine own_weaken ?_ hb1.size
          have e1 : xs ++ enc r = xs ++ (S ++ be 4 R) ++ r := by
            unfold enc
            rw [hlr, hS, hR]; simp [List.append_assoc]
          rw [e1, ub_append]
          exact hown7
        have hbl := below_then hb1 hb7
        clear hown5 hown7 hg7 hb6 hb7 hr6 hr1 hsz
        go_wp2_with fail
        go_ret2
        exact ⟨⟨_, _, rfl, by omega, hfin⟩, hbl⟩

/-- what Next answers at a place that is none -/
theorem fnext_out (A : Option Addr) (m cap : Nat) (xs : List UInt8) (i : Int) (w : World) (hx : Rd w A m (ub xs)) (hm : m ≤ 140737488355328) (hi : i < 0 ∨ (m : Int) < i) :
    Calls Try.prog 77 #[.slice A m cap, .int .i64 i] w fun e w' => e = .returned (.tuple #[.slice none 0 0, .int .i64 0, .int .i64 1]) ∧ w = w' := by
  rcases hi with hi | hi
  · go_enter Try.func77, Try.ntmps77
    go_wp2_with fail
    go_ret3
    exact ⟨rfl, rfl⟩
  · have hi2 : ¬ i < 0 := by omega
    go_enter Try.func77, Try.ntmps77
    go_wp2_with fail
    go_ret3
    exact ⟨rfl, rfl⟩

/-- .. and elsewhere -/
def NextPost (base : Nat) (xs : List UInt8) (a : Nat) (e : Ending) (w' : World) : Prop :=
  (nextErr xs a ≠ 0 ∧ e = .returned (.tuple #[.slice none 0 0, .int .i64 0, .int .i64 (nextErr xs a : Int)])) ∨
  (nextErr xs a = 0 ∧ ∃ g c, e = .returned (.tuple #[.slice (some ⟨g, 0, none⟩) (recLen xs a) c, .int .i64 ((a + 8 + recLen xs a : Nat) : Int), .int .i64 0]) ∧
    w'.ownsRow base 5 1 (.slice (some ⟨g, 0, none⟩) (recLen xs a) c) (recLen xs a) (ub (recBody xs a)))

set_option maxHeartbeats 2000000 in
theorem fnext_calls (A : Option Addr) (m cap : Nat) (xs : List UInt8) (a : Nat) (w : World) (hx : Rd w A m (ub xs)) (hc : m ≤ cap) (hm : m ≤ 1073741824) (ha : a ≤ m) :
    Calls Try.prog 77 #[.slice A m cap, .int .i64 (a : Int)] w fun e w' => NextPost w.heap.size xs a e w' ∧ Below w.heap.size w w' := by
  have hl := hx.len
  obtain ⟨B, hcut, hB⟩ := cut_lo (P := Try.prog) Try.underlying35 (size_of_info info_u8) A m cap a (a : Int) rfl ha hc
  have hrest := hB _ _ hx
  rw [ub_drop] at hrest
  clear hB
  by_cases h8 : m - a < 8
  · have he : nextErr xs a = 2 := by unfold nextErr; rw [if_neg (by omega), if_pos (by omega)]
    go_enter Try.func77, Try.ntmps77
    go_wp2_with fail
    go_ret3
    exact ⟨.inl ⟨by omega, by rw [he]; rfl⟩, Below.refl _ _⟩
  · have g1 := get_calls B (m - a) (cap - a) (xs.drop a) 0 4 w hrest (by omega) (by omega) (by decide) (by decide) (by omega)
    have g2 := get_calls B (m - a) (cap - a) (xs.drop a) 4 4 w hrest (by omega) (by omega) (by decide) (by decide) (by omega)
    rw [List.drop_zero] at g1
    rw [List.drop_drop] at g2
    have G1 := Lib.hid g1
    have G2 := Lib.hid g2
    clear g1 g2
    have hlen : rdbe ((xs.drop a).take 4) = recLen xs a := rfl
    have hsum : rdbe ((xs.drop (a + 4)).take 4) = recSum xs a := rfl
    have hb1 : recLen xs a < 4294967296 := by have := rdbe_lt ((xs.drop a).take 4); rw [hlen] at this; exact Nat.lt_of_lt_of_le this (Nat.le_trans (Nat.pow_le_pow_right (by decide) (show ((xs.drop a).take 4).length ≤ 4 by simp; omega)) (by decide))
    have hb2 : recSum xs a < 4294967296 := by have := rdbe_lt ((xs.drop (a + 4)).take 4); rw [hsum] at this; exact Nat.lt_of_lt_of_le this (Nat.le_trans (Nat.pow_le_pow_right (by decide) (show ((xs.drop (a + 4)).take 4).length ≤ 4 by simp; omega)) (by decide))
    rw [hlen] at G1
    rw [hsum] at G2
    clear hlen hsum
    by_cases h20 : 1048576 < recLen xs a
    · have he : nextErr xs a = 3 := by unfold nextErr; rw [if_neg (by omega), if_neg (by omega), if_pos h20]
      generalize recLen xs a = L at *
      generalize recSum xs a = C at *
      go_enter Try.func77, Try.ntmps77
      go_wp2_with fail
      refine G1.out.mono ?_
      rintro e w1 ⟨rfl, rfl⟩
      go_wp2_with fail
      refine G2.out.mono ?_
      rintro e w1 ⟨rfl, rfl⟩
      go_wp2_with fail
      go_ret3
      exact ⟨.inl ⟨by omega, by rw [he]; rfl⟩, Below.refl _ _⟩
    · by_cases hsh : m - a - 8 < recLen xs a
      · have he : nextErr xs a = 2 := by unfold nextErr; rw [if_neg (by omega), if_neg (by omega), if_neg h20, if_pos (by omega)]
        generalize recLen xs a = L at *
        generalize recSum xs a = C at *
        go_enter Try.func77, Try.ntmps77
        go_wp2_with fail
        refine G1.out.mono ?_
        rintro e w1 ⟨rfl, rfl⟩
        go_wp2_with fail
        refine G2.out.mono ?_
        rintro e w1 ⟨rfl, rfl⟩
        go_wp2_with fail
        go_ret3
        exact ⟨.inl ⟨by omega, by rw [he]; rfl⟩, Below.refl _ _⟩
      · obtain ⟨B4, hcut4, hB4⟩ := cut_hm (P := Try.prog) Try.underlying35 (size_of_info info_u8) B (m - a) (cap - a) 4 4 4 4 rfl rfl (by omega) (by omega) (by omega)
        obtain ⟨B8, hcut8, hB8⟩ := cut_lhm (P := Try.prog) Try.underlying35 (size_of_info info_u8) B (m - a) (cap - a) 8 (8 + recLen xs a) (8 + recLen xs a) 8 (8 + (recLen xs a : Int)) (8 + (recLen xs a : Int)) rfl (by omega) (by omega) (by omega) (by omega) (by omega) (by omega)
        have hr4 := hB4 _ _ hrest
        have hr8 := hB8 _ _ hrest
        rw [ub_take] at hr4
        rw [ub_drop, ub_take, List.drop_drop, show 8 + recLen xs a - 8 = recLen xs a by omega] at hr8
        rw [show 8 + recLen xs a - 8 = recLen xs a by omega] at hcut8
        have htwo := rdl_two (w := w) (c := 4) (d := recLen xs a) hr4 (Nat.le_refl _) hr8 (Nat.le_refl _) 35
        have hbw := (Below.refl w.heap.size w).alloc (Nat.le_refl _) (.cells #[.slice B4 4 4, .slice B8 (recLen xs a) (recLen xs a)] 35)
        have hr8b := hr8.below hbw
        have hbody : (xs.drop (a + 8)).take (recLen xs a) = recBody xs a := rfl
        rw [hbody] at htwo hr8b
        have hbl : (recBody xs a).length = recLen xs a := hr8b.len
        have h4l : ((xs.drop a).take 4).length = 4 := hr4.len
        clear hB4 hB8 hr4 hr8 hbody hrest hx
        have Hflat : Hid ([(xs.drop a).take 4, recBody xs a].flatten = (xs.drop a).take 4 ++ recBody xs a) := Lib.hid (by simp)
        by_cases hcs : CRC.crc 0 (nat8 ((xs.drop a).take 4 ++ recBody xs a)) = recSum xs a
        · have he : nextErr xs a = 0 := by unfold nextErr; rw [if_neg (by omega), if_neg (by omega), if_neg h20, if_neg (by omega), if_pos hcs]
          have Hcs := Lib.hid hcs
          have He := Lib.hid he
          have HP : Hid (∀ e w', (∃ g c, e = .returned (.tuple #[.slice (some ⟨g, 0, none⟩) (recLen xs a) c, .int .i64 ((a + 8 + recLen xs a : Nat) : Int), .int .i64 0]) ∧
              w'.ownsRow w.heap.size 5 1 (.slice (some ⟨g, 0, none⟩) (recLen xs a) c) (recLen xs a) (ub (recBody xs a))) → NextPost w.heap.size xs a e w') := Lib.hid (fun e w' h => .inr ⟨he, h⟩)
          clear hcs he
          generalize hL : recLen xs a = L at *
          generalize hC : recSum xs a = C at *
          clear hL hC
          go_enter Try.func77, Try.ntmps77
          go_wp2_with fail
          refine G1.out.mono ?_
          rintro e w1 ⟨rfl, rfl⟩
          go_wp2_with fail
          refine G2.out.mono ?_
          rintro e w1 ⟨rfl, rfl⟩
          go_wp2_with fail
          refine (of_calls _ 2 2 _ _ htwo (by decide) (fun l hl => by simp at hl; rcases hl with rfl | rfl <;> omega)).mono ?_
          rintro e w2 ⟨rfl, rfl⟩
          rw [Hflat.out, Hcs.out]
          have hr9 := hr8b.below ((Below.refl _ _).alloc (Nat.le_refl _) (.cells #[] 5))
          have hown := own_empty (w.alloc (.cells #[.slice B4 4 4, .slice B8 L L] 35)) (base := w.heap.size) (by simp) 5
          have hb3 := hbw.alloc hbw.size (.cells #[] 5)
          rw [show (w.alloc (.cells #[.slice B4 4 4, .slice B8 L L] 35)).heap.size = w.heap.size + 1 by simp] at hown
          clear htwo hr8b
          go_wp2_with (at_builtin; refine wpList_app rfl _ _ _ rfl 5 (.int .u8 0) 1 Try.underlying35 info_u8 rfl (by decide) w.heap.size rfl hown rfl hr9 (ub_one _) ?_ ?_ ?_)
          case _ => omega
          case _ => simp; omega
          case _ =>
            intro v' w4 hown4 hg4 hat
            have hb4 := hb3.grown hg4 hb3.size (fun k hk => (own_base hown k hk))
            have hform : ∃ g c, v' = .slice (some ⟨g, 0, none⟩) L c := by
              rcases hown4.2 with ⟨rfl, _⟩ | ⟨g, c, cur, rfl, _⟩
              · rcases hat with hat | hat <;> simp [Value.ownBlock] at hat
              · exact ⟨g, c, by simp⟩
            obtain ⟨g, c, rfl⟩ := hform
            clear hown hg4 hb3 hr9 hat
            go_wp2_with fail
            go_ret3
            refine ⟨HP.out _ _ ⟨g, c, ?_, by simpa using hown4⟩, hb4⟩
            simp
        · have he : nextErr xs a = 4 := by unfold nextErr; rw [if_neg (by omega), if_neg (by omega), if_neg h20, if_neg (by omega), if_neg hcs]
          have hRl := CRC.crc_lt 0 (nat8 ((xs.drop a).take 4 ++ recBody xs a))
          generalize hR : CRC.crc 0 (nat8 ((xs.drop a).take 4 ++ recBody xs a)) = R at *
          have HR := Lib.hid hR
          clear hR
          generalize recLen xs a = L at *
          generalize recSum xs a = C at *
          have hne : ((R : Int) != C) = true := by rw [bne_iff_ne]; omega
          go_enter Try.func77, Try.ntmps77
          go_wp2_with fail
          refine G1.out.mono ?_
          rintro e w1 ⟨rfl, rfl⟩
          go_wp2_with fail
          refine G2.out.mono ?_
          rintro e w1 ⟨rfl, rfl⟩
          go_wp2_with fail
          refine (of_calls _ 2 2 _ _ htwo (by decide) (fun l hl => by simp at hl; rcases hl with rfl | rfl <;> omega)).mono ?_
          rintro e w2 ⟨rfl, rfl⟩
          rw [Hflat.out, HR.out]
          go_wp2_with fail
          go_ret3
          exact ⟨.inl ⟨by omega, by rw [he]; rfl⟩, hbw⟩

theorem info_sl2 : (Try.prog.info? 35).map (fun i => (i.zero, i.size, i.bytes)) = some (some (.slice none 0 0), 1, 24) := by kernel_rfl

set_option maxHeartbeats 2000000 in
theorem fscan_calls (A : Option Addr) (m cap : Nat) (xs : List UInt8) (w : World) (hx : Rd w A m (ub xs)) (hc : m ≤ cap) (hm : m ≤ 1073741824) :
    Calls Try.prog 70 #[.slice A m cap] w fun e w' => (∃ B n c G cs, e = .returned (.tuple #[.slice B n c, .int .i64 ((scanOf xs).2 : Int)]) ∧ n = (scanOf xs).1.length ∧ n ≤ c ∧ w'.ownsRow w.heap.size 35 1 (.slice B n c) n cs ∧ OwnL w' w.heap.size G cs (scanOf xs).1) ∧ Below w.heap.size w w' := by
  have hl := hx.len
  go_enter Try.func70, Try.ntmps70
  go_wp2_with fail
  go_loopw [2, 3] (fun s i wr => ∃ (ls : List (List UInt8)) (a k : Nat) (G : Nat → Nat) (cs : List Value), Reach xs ls a ∧ i = .int .i64 (a : Int) ∧ Hid (k = ls.length) ∧ wr.ownsRow w.heap.size 35 1 s k cs ∧ OwnL wr w.heap.size G cs ls ∧ Below w.heap.size w wr) (fun _ i _ => m - (intOf i).toNat)
  case atStart => exact ⟨[], 0, 0, _, [], Reach.start, rfl, rfl, World.ownsRow_nil _ _ _ _, OwnL.nil_ _ _, Below.refl _ _⟩
  case round =>
    obtain ⟨ls, a, k, G, cs, hreach, rfl, Hk, hown, hol, hbel⟩ := hrel
    have hb := hreach.bound
    rw [hl] at hb
    obtain ⟨C, c3, rfl, hcc, hrd⟩ := own_rd hown
    go_wp2_with fail
    refine (fnext_calls A m cap xs a _ (hx.below hbel) hc hm hb.1).mono ?_
    rintro e w1 ⟨hp, hb1⟩
    by_cases hst : nextErr xs a = 0
    · rcases hp with ⟨h, _⟩ | ⟨_, g, c, rfl, ho⟩
      · exact absurd hst h
      have hnok := next_ok hst
      rw [hl] at hnok
      have hgw := (ho.lt g rfl).1
      have hol1 := hol.below hb1
      have hbl := body_length hst
      rw [← hbl] at ho
      have hol2 := hol.snoc hol1 hgw hbel.size ho
      have hreach2 := hreach.step hst
      rw [hbl] at hol2
      have hown1 := own_below hown hb1
      have hown2 := hown1.alloc (.cells #[.slice (some ⟨g, 0, none⟩) (recLen xs a) c] 35)
      have hr1 := rd_one w1 (.slice (some ⟨g, 0, none⟩) (recLen xs a) c) 35
      have hbel1 := below_then hbel hb1
      have hbel2 := hbel1.alloc hbel1.size (.cells #[.slice (some ⟨g, 0, none⟩) (recLen xs a) c] 35)
      have hsz := hbel1.size
      have Hk2 : Hid (k + 1 = (ls ++ [recBody xs a]).length) := Lib.hid (by rw [List.length_append, ← Hk.out]; rfl)
      have hkb : k ≤ 1073741824 := by have := Hk.out; omega
      clear hown hown1 hol hol1 ho hreach hrd hst hbl hb1 Hk
      generalize ls ++ [recBody xs a] = ls2 at *
      generalize hG2 : (fun j => if j = ls.length then g else G j) = G2 at *
      clear hG2
      generalize recLen xs a = L at *
      go_wp2_with (at_builtin; refine wpList_app rfl _ _ _ rfl 35 (.slice none 0 0) 24 Try.underlying36 info_sl2 rfl (by decide) w.heap.size rfl hown2 rfl hr1 (one_one rfl) ?_ ?_ ?_)
      case _ => omega
      case _ => simp; omega
      case _ =>
        intro v' w2 hown3 hg2 _
        have hb3 := hbel2.grown hg2 hbel2.size (fun k hk => (own_base hown2 k hk))
        have hol3 := hol2.move (w' := w2) (fun g c _ hgc => (hg2.block g (heap_lt (alloc_old hgc)) (own_ne_blk hown2 (alloc_old hgc) (by decide))).trans (alloc_old hgc))
        clear hown2 hol2 hg2 hr1 hbel2 hbel1
        go_wp2_with fail
        go_roundw
        case rel => exact ⟨ls2, a + 8 + L, k + 1, G2, _, hreach2, by go_num, Hk2, hown3, hol3, hb3⟩
        case measure => simp [intOf]; omega
    · rcases hp with ⟨_, rfl⟩ | ⟨h, _⟩
      · have hd := hreach.done hst
        have he0 : ((nextErr xs a : Int) != 0) = true := by rw [bne_iff_ne]; omega
        have hE : nextErr xs a ≤ 4 := by unfold nextErr; repeat' split
                                         all_goals omega
        have hfin : ((scanOf xs).2 = a) ∧ ((scanOf xs).1 = ls) := by rw [hd]; exact ⟨rfl, rfl⟩
        have hrd1 := own_below hown hb1
        have hol1 := hol.below hb1
        have hbel1 := below_then hbel hb1
        have HF := Lib.hid hfin
        clear hd hreach hfin
        generalize nextErr xs a = E at *
        go_wp2_with fail
        go_ret2
        rw [HF.out.1, HF.out.2]
        exact ⟨⟨_, _, _, G, cs, rfl, Hk.out, hcc, hrd1, hol1⟩, hbel1⟩
      · exact absurd h hst
end Go.Proofs.Ythcajaadbdiggaa
