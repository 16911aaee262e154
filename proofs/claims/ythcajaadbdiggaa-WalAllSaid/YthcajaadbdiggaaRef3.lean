/- Contracts of the references of bits and frame. -/
import Derived.Test.YthcajaadbdiggaaRows
import Derived.Test.YthcajaadbdiggaaOwn
import Derived.Test.YthcajaadbdiggaaSum
import Derived.Test.YthcajaadbdiggaaRef2
import Derived.Test.YthcajaadbdiggaaLaw0
import Derived.Test.YthcajaadbdiggaaBits
import Derived.Test.YthcajaadbdiggaaFrameMath
import Derived.Test.YthcajaadbdiggaaFrame
import Derived.StillTailTactics
import Derived.Deep.RegionHeld3
namespace Go.Proofs.Ythcajaadbdiggaa
open Go.RowKit

/-- bytes, filled in from behind down to j -/
def beTo (n v j : Nat) : List Value := List.replicate j (.int .u8 0) ++ ub ((be n v).drop j)
theorem beTo_length {n v j : Nat} (h : j ≤ n) : (beTo n v j).length = n := by simp [beTo, ub_length, be_length]; omega
theorem beTo_all (n v : Nat) : (madeCells #[.int .u8 0] n) = (beTo n v n).toArray := by
  have : (be n v).drop n = [] := List.drop_eq_nil_of_le (by rw [be_length]; omega)
  apply Array.ext'
  simp [madeCells, beTo, this, ub, Nat.mod_one, List.map_const']
theorem beTo_set {n v q : Nat} (h : q < n) : (beTo n v (q + 1)).set q (.int .u8 ((UInt8.ofNat (v / 256 ^ (n - (q + 1)))).toNat : Int)) = beTo n v q := by
  unfold beTo
  have hd : (be n v).drop q = UInt8.ofNat (v / 256 ^ (n - 1 - q)) :: (be n v).drop (q + 1) := by
    rw [List.drop_eq_getElem_cons (by rw [be_length]; exact h)]
    congr 1
    have := be_get n v q h
    rw [List.getElem?_eq_getElem (by rw [be_length]; exact h)] at this
    injection this
  rw [hd, List.replicate_succ', List.append_assoc, List.set_append_right _ _ (by simp), List.length_replicate, Nat.sub_self, show n - 1 - q = n - (q + 1) by omega]
  rfl
theorem beTo_at {n v q : Nat} : (beTo n v (q + 1))[q]? = some (.int .u8 0) := by
  unfold beTo
  rw [List.getElem?_append_left (by simp), List.getElem?_replicate, if_pos (by omega)]
theorem byte256 (x : Nat) : ((x : Int) % 256 % 256) = ((UInt8.ofNat x).toNat : Int) ∧ ((x : Int) % 256) = ((UInt8.ofNat x).toNat : Int) := by
  simp
theorem div256 (v k : Nat) : v / 256 ^ k / 256 = v / 256 ^ (k + 1) := by rw [Nat.div_div_eq_div_mul, Nat.pow_succ]

set_option maxHeartbeats 2000000 in
theorem ref1put_calls (A : Option Addr) (m cap : Nat) (xs : List UInt8) (v n : Nat) (w : World) (hr : Rd w A m (ub xs)) (hm : m ≤ 536870912) (hn1 : 1 ≤ n) (hn8 : n ≤ 8) (hv : v < 256 ^ n) (hv2 : v < 18446744073709551616) :
    Calls Try.prog 62 #[.slice A m cap, .int .u64 (v : Int), .int .i64 (n : Int)] w fun e w' => (∃ u, e = .returned (.tuple #[u, .int .i64 0]) ∧ w'.ownsRow w.heap.size 5 1 u (m + n) (ub (xs ++ be n v))) ∧ Below w.heap.size w w' := by
  have hmk := run_make_row' (P := Try.prog) 35 5 (.int .u8 0) 1 Try.underlying35 info_u8 rfl .i64 .i64 n (by omega) (by omega)
  rw [beTo_all n v] at hmk
  have Hz : Hid (v / 256 ^ n = 0) := Lib.hid (Nat.div_eq_of_lt hv)
  have Hnew := Lib.hid (alloc_new w (.cells (beTo n v n).toArray 5) _ rfl)
  have hb0 := (Below.refl w.heap.size w).alloc (Nat.le_refl _) (.cells (beTo n v n).toArray 5)
  go_enter Try.func62, Try.ntmps62
  go_wp2_with fail
  clear hmk
  go_loopw [1, 9] (fun x i wr => ∃ j : Nat, j ≤ n ∧ i = .int .i64 ((j : Int) - 1) ∧ x = .int .u64 ((v / 256 ^ (n - j) : Nat) : Int) ∧ Hid (wr.heap[w.heap.size]? = some (.cells (beTo n v j).toArray 5 (0, 0))) ∧ Below w.heap.size w wr) (fun _ i _ => (intOf i + 1).toNat)
  case atStart => exact ⟨n, Nat.le_refl _, rfl, by simp, Hnew, hb0⟩
  case round =>
    obtain ⟨j, hj, rfl, rfl, Hb, hbel⟩ := hrel
    clear Hnew hb0
    by_cases hj0 : j = 0
    · subst hj0
      rw [Nat.sub_zero, Hz.out]
      have Hb2 := Hb.out
      have e0 : beTo n v 0 = ub (be n v) := by simp [beTo]
      rw [e0] at Hb2
      have hrx := Rd.of_row (n := n) (l := ub (be n v)) (r := []) Hb2 (by rw [ub_length, be_length]) (by simp)
      have hbn := (Below.refl wr.heap.size wr).alloc (Nat.le_refl _) (.cells #[] 5)
      have hb3 := hbel.alloc hbel.size (.cells #[] 5)
      have hown := own_empty wr hbel.size 5
      have hr3 := hr.below hb3
      have hsz := hbel.size
      have hlt := heap_lt Hb2
      clear Hb Hb2 e0
      go_wp2_with (at_builtin; refine wpList_app rfl (.tmp 34) (.tmp 35) _ rfl 5 (.int .u8 0) 1 Try.underlying35 info_u8 rfl (by decide) wr.heap.size rfl (own_empty wr (Nat.le_refl _) 5) rfl hr3 (ub_one _) ?_ hbn.size ?_)
      case _ => omega
      case _ =>
        intro v2 w2 hown2 hg2 _
        have hbn2 := hbn.grown hg2 hbn.size (fun k hk => (own_base (own_empty wr (Nat.le_refl _) 5) k hk))
        obtain ⟨D, d, rfl, _, _⟩ := own_rd hown2
        have hrx2 := hrx.below hbn2
        clear hown hg2 hbn hr3 hb3
        go_wp2_with (at_builtin; refine wpList_app rfl (.tmp 36) (.tmp 37) _ rfl 5 (.int .u8 0) 1 Try.underlying35 info_u8 rfl (by decide) wr.heap.size rfl hown2 rfl hrx2 (ub_one _) ?_ hbn2.size ?_)
        case _ => omega
        case _ =>
          intro v3 w3 hown3 hg3 _
          have hbn3 := hbn2.grown hg3 hbn2.size (fun k hk => (own_base hown2 k hk))
          obtain ⟨E, e5, rfl, _, _⟩ := own_rd hown3
          have hb4 := below_then hbel hbn3
          have hfin := own_weaken hown3 hsz
          clear hown2 hown3 hg3 hbn2 hrx hrx2
          go_wp2_with fail
          go_ret2
          exact ⟨⟨_, rfl, by rw [ub_append]; simpa using hfin⟩, hb4⟩
    · obtain ⟨q, rfl⟩ : ∃ q, j = q + 1 := ⟨j - 1, by omega⟩
      rw [show (((q + 1 : Nat) : Int) - 1) = (q : Int) by omega]
      have hset := set_row Hb.out q (.int .u8 ((UInt8.ofNat (v / 256 ^ (n - (q + 1)))).toNat : Int))
      rw [List.setIfInBounds_toArray, beTo_set (by omega)] at hset
      have Hset := Lib.hid hset
      have hcell : wr.cell? ⟨w.heap.size, q, none⟩ = some (.int .u8 0) := by rw [cell_row Hb.out]; simpa using beTo_at
      have hfree := free_row Hb.out q
      have hbv : v / 256 ^ (n - (q + 1)) < 18446744073709551616 := Nat.lt_of_le_of_lt (Nat.div_le_self _ _) hv2
      have Hd := Lib.hid (div256 v (n - (q + 1)))
      have Hby := Lib.hid (byte256 (v / 256 ^ (n - (q + 1))))
      rw [show n - (q + 1) + 1 = n - q by omega] at Hd
      have hb2 := hbel.setCell (p := ⟨w.heap.size, q, none⟩) (Nat.le_refl _) (.int .u8 ((UInt8.ofNat (v / 256 ^ (n - (q + 1)))).toNat : Int))
      clear hset
      generalize v / 256 ^ (n - (q + 1)) = V at *
      go_wp2_with fail
      first | rw [Hby.out.1] | rw [Hby.out.2]
      go_roundw
      case rel => exact ⟨q, by omega, by go_num, by rw [← Hd.out]; go_num, Hset, hb2⟩
      case measure => simp [intOf]

set_option maxHeartbeats 1000000 in
theorem ref1get_calls (A : Option Addr) (m cap : Nat) (xs : List UInt8) (a n : Nat) (w : World) (hr : Rd w A m (ub xs)) (hm : m ≤ 140737488355328) (hn1 : 1 ≤ n) (hn8 : n ≤ 8) (hat : a + n ≤ m) :
    Calls Try.prog 75 #[.slice A m cap, .int .i64 (a : Int), .int .i64 (n : Int)] w fun e w' => e = .returned (.tuple #[.int .u64 (rdbe ((xs.drop a).take n) : Int), .int .i64 0]) ∧ w = w' := by
  have hl := hr.len
  go_enter Try.func75, Try.ntmps75
  go_wp2_with fail
  go_loop [8, 9] (fun s i => ∃ k : Nat, k ≤ n ∧ i = .int .i64 k ∧ s = .int .u64 (rdbe (((xs.drop a).take n).take k) : Int)) (fun _ i => n - (intOf i).toNat)
  case atStart => exact ⟨0, Nat.zero_le _, rfl, rfl⟩
  case round =>
    obtain ⟨k, hk, rfl, rfl⟩ := hrel
    by_cases hlt : k < n
    · obtain ⟨ad, x, rfl, hx, hcell⟩ := hr.byte (k := a + k) (by omega)
      have hx2 : ((xs.drop a).take n)[k]? = some x := by rw [List.getElem?_take_of_lt hlt, List.getElem?_drop]; exact hx
      have hs1 := rdbe_small (l := ((xs.drop a).take n).take (k + 1)) (n := n) (by simp; omega) hn8
      have Hx := Lib.hid ((congrArg rdbe (take_next hx2)).trans (rdbe_snoc _ _))
      rw [Hx.out] at hs1
      have hx8 := x.toNat_lt
      obtain ⟨p, hp⟩ : ∃ p : Nat, a + k = p := ⟨_, rfl⟩
      have hpi : (a : Int) + (k : Int) = (p : Int) := by omega
      have hp1 : p < m := by omega
      rw [hp] at hcell
      clear hx hx2 hp
      generalize rdbe (((xs.drop a).take n).take k) = r at *
      go_wp2_with fail
      go_round
      case rel => exact ⟨k + 1, by omega, by go_num, by rw [Hx.out]; go_num⟩
      case measure => simp [intOf]; omega
    · obtain rfl : k = n := by omega
      rw [List.take_take, Nat.min_self]
      go_wp2_with fail
      go_ret2
      exact ⟨rfl, rfl⟩

set_option maxHeartbeats 2000000 in
theorem ref3put_calls (A A2 : Option Addr) (m cap n cap2 : Nat) (xs r : List UInt8) (w : World) (hx : Rd w A m (ub xs)) (hr : Rd w A2 n (ub r)) (hc2 : n ≤ cap2) (hm : m ≤ 268435456) (hn : n ≤ 1048576) :
    Calls Try.prog 35 #[.slice A m cap, .slice A2 n cap2] w fun e w' => (∃ u k, e = .returned (.tuple #[u, .int .i64 0]) ∧ k = m + n + 8 ∧ w'.ownsRow w.heap.size 5 1 u k (ub (xs ++ enc r))) ∧ Below w.heap.size w w' := by
  have hlr := hr.len
  go_enter Try.func35, Try.ntmps35
  go_wp2_with fail
  refine (ref1put_calls none 0 0 [] n 4 _ (Rd.none_ _ _) (by decide) (by decide) (by decide) (by omega) (by omega)).mono ?_
  rintro e w1 ⟨⟨u, rfl, hown⟩, hb1⟩
  rw [List.nil_append] at hown
  obtain ⟨C, c, rfl, hc4, hsz⟩ := own_rd hown
  have hx1 := hx.below hb1
  have hr1 := hr.below hb1
  clear hown hx hr
  generalize hS : be 4 n = S at hsz
  have hSl := hsz.len
  have htwo := rdl_two (w := w1) (c := c) (d := cap2) hsz hc4 hr1 hc2 35
  have hbw := (Below.refl w1.heap.size w1).alloc (Nat.le_refl _) (.cells #[.slice C (0 + 4) c, .slice A2 n cap2] 35)
  have hcl := CRC.crc_lt 0 (nat8 (S ++ r))
  go_wp2_with fail
  refine (refof_calls _ 2 2 [S, r] _ htwo (by decide) (fun l hl => by simp at hl; rcases hl with rfl | rfl <;> omega)).mono ?_
  rintro e w5 ⟨rfl, rfl⟩
  rw [show [S, r].flatten = S ++ r from by simp]
  clear htwo
  generalize hR : CRC.crc 0 (nat8 (S ++ r)) = R at *
  go_wp2_with fail
  refine (ref1put_calls none 0 0 [] R 4 _ (Rd.none_ _ _) (by decide) (by decide) (by decide) (by omega) (by omega)).mono ?_
  rintro e w5 ⟨⟨u5, rfl, hown5⟩, hb5⟩
  rw [List.nil_append] at hown5
  obtain ⟨D, d, rfl, _, hsum⟩ := own_rd hown5
  have hb6 := hbw.trans (hb5.mono hbw.size)
  have hbn := (Below.refl w5.heap.size w5).alloc (Nat.le_refl _) (.cells #[] 5)
  have hx6 := (hx1.below hb6).below hbn
  have hr6 := hr1.below hb6
  have hs6 := hsz.below hb6
  have hbl := below_then hb1 hb6
  have hsz6 := hbl.size
  clear hx1 hr1 hsz hbw hb5 hown5 hb1 hb6
  go_wp2_with (at_builtin; refine wpList_app rfl (.tmp 29) (.tmp 30) _ rfl 5 (.int .u8 0) 1 Try.underlying35 info_u8 rfl (by decide) w5.heap.size rfl (own_empty w5 (Nat.le_refl _) 5) rfl hx6 (ub_one _) ?_ hbn.size ?_)
  case _ => omega
  case _ =>
    intro v7 w7 hown7 hg7 _
    have hb7 := hbn.grown hg7 hbn.size (fun k hk => (own_base (own_empty w5 (Nat.le_refl _) 5) k hk))
    obtain ⟨E, e7, rfl, _, _⟩ := own_rd hown7
    have hs7 := hs6.below hb7
    clear hg7 hbn hx6
    go_wp2_with (at_builtin; refine wpList_app rfl (.tmp 31) (.tmp 32) _ rfl 5 (.int .u8 0) 1 Try.underlying35 info_u8 rfl (by decide) w5.heap.size rfl hown7 rfl hs7 (ub_one _) ?_ hb7.size ?_)
    case _ => omega
    case _ =>
      intro v8 w8 hown8 hg8 _
      have hb8 := hb7.grown hg8 hb7.size (fun k hk => (own_base hown7 k hk))
      obtain ⟨F, f8, rfl, _, _⟩ := own_rd hown8
      have hsum8 := hsum.below hb8
      clear hg8 hb7 hs7 hown7
      go_wp2_with (at_builtin; refine wpList_app rfl (.tmp 33) (.tmp 34) _ rfl 5 (.int .u8 0) 1 Try.underlying35 info_u8 rfl (by decide) w5.heap.size rfl hown8 rfl hsum8 (ub_one _) ?_ hb8.size ?_)
      case _ => omega
      case _ =>
        intro v9 w9 hown9 hg9 _
        have hb9 := hb8.grown hg9 hb8.size (fun k hk => (own_base hown8 k hk))
        obtain ⟨G, g9, rfl, _, _⟩ := own_rd hown9
        have hr9 := hr6.below hb9
        clear hg9 hb8 hsum8 hown8
        go_wp2_with (at_builtin; refine wpList_app rfl (.tmp 35) (.tmp 36) _ rfl 5 (.int .u8 0) 1 Try.underlying35 info_u8 rfl (by decide) w5.heap.size rfl hown9 rfl hr9 (ub_one _) ?_ hb9.size ?_)
        case _ => omega
        case _ =>
          intro va wa howna hga _
          have hba := hb9.grown hga hb9.size (fun k hk => (own_base hown9 k hk))
          obtain ⟨H, ha, rfl, _, _⟩ := own_rd howna
          have hfin := own_weaken howna hsz6
          have hend := below_then hbl hba
          have e1 : ub (xs ++ enc r) = [] ++ ub xs ++ ub S ++ ub (be 4 R) ++ ub r := by
            unfold enc; rw [hlr, hS, hR]; simp [ub_append, List.append_assoc]
          clear hga hb9 hr9 hown9 hba howna
          go_wp2_with fail
          go_ret2
          refine ⟨⟨_, m + n + 8, rfl, rfl, ?_⟩, hend⟩
          rw [e1, show m + n + 8 = m + 4 + 4 + n by omega]
          simpa using hfin

theorem ref3next_out (A : Option Addr) (m cap : Nat) (xs : List UInt8) (i : Int) (w : World) (hx : Rd w A m (ub xs)) (hm : m ≤ 140737488355328) (hi : i < 0 ∨ (m : Int) < i) :
    Calls Try.prog 59 #[.slice A m cap, .int .i64 i] w fun e w' => e = .returned (.tuple #[.slice none 0 0, .int .i64 0, .int .i64 1]) ∧ w = w' := by
  rcases hi with hi | hi
  · go_enter Try.func59, Try.ntmps59
    go_wp2_with fail
    go_ret3
    exact ⟨rfl, rfl⟩
  · have hi2 : ¬ i < 0 := by omega
    go_enter Try.func59, Try.ntmps59
    go_wp2_with fail
    go_ret3
    exact ⟨rfl, rfl⟩

set_option maxHeartbeats 4000000 in
theorem ref3next_calls (A : Option Addr) (m cap : Nat) (xs : List UInt8) (a : Nat) (w : World) (hx : Rd w A m (ub xs)) (hc : m ≤ cap) (hm : m ≤ 1073741824) (ha : a ≤ m) :
    Calls Try.prog 59 #[.slice A m cap, .int .i64 (a : Int)] w fun e w' => NextPost w.heap.size xs a e w' ∧ Below w.heap.size w w' := by
  have hl := hx.len
  by_cases h8 : m - a < 8
  · have he : nextErr xs a = 2 := by unfold nextErr; rw [if_neg (by omega), if_pos (by omega)]
    have h8i : (m : Int) - a < 8 := by omega
    go_enter Try.func59, Try.ntmps59
    go_wp2_with fail
    go_ret3
    exact ⟨.inl ⟨by omega, by rw [he]; rfl⟩, Below.refl _ _⟩
  · have h8i : ¬ (m : Int) - a < 8 := by omega
    have g1 := ref1get_calls A m cap xs a 4 w hx (by omega) (by decide) (by decide) (by omega)
    have g2 := ref1get_calls A m cap xs (a + 4) 4 w hx (by omega) (by decide) (by decide) (by omega)
    rw [show ((a + 4 : Nat) : Int) = (a : Int) + 4 by omega] at g2
    have G1 := Lib.hid g1
    have G2 := Lib.hid g2
    clear g1 g2
    have hlen : rdbe ((xs.drop a).take 4) = recLen xs a := rfl
    have hsum : rdbe ((xs.drop (a + 4)).take 4) = recSum xs a := rfl
    have hb1 : recLen xs a < 4294967296 := by have := rdbe_lt ((xs.drop a).take 4); rw [hlen] at this; exact Nat.lt_of_lt_of_le this (Nat.le_trans (Nat.pow_le_pow_right (by decide) (show ((xs.drop a).take 4).length ≤ 4 by simp; omega)) (by decide))
    have hb2 : recSum xs a < 4294967296 := by have := rdbe_lt ((xs.drop (a + 4)).take 4); rw [hsum] at this; exact Nat.lt_of_lt_of_le this (Nat.le_trans (Nat.pow_le_pow_right (by decide) (show ((xs.drop (a + 4)).take 4).length ≤ 4 by simp; omega)) (by decide))
    rw [hlen] at G1
    rw [hsum] at G2
    clear hlen hsum
    by_cases h20 : 1048576 < recLen xs a
    · have he : nextErr xs a = 3 := by unfold nextErr; rw [if_neg (by omega), if_neg (by omega), if_pos h20]
      generalize recLen xs a = L at *
      generalize recSum xs a = C at *
      go_enter Try.func59, Try.ntmps59
      go_wp2_with fail
      refine G1.out.mono ?_
      rintro e w1 ⟨rfl, rfl⟩
      go_wp2_with fail
      go_ret3
      exact ⟨.inl ⟨by omega, by rw [he]; rfl⟩, Below.refl _ _⟩
    · by_cases hsh : m - a - 8 < recLen xs a
      · have he : nextErr xs a = 2 := by unfold nextErr; rw [if_neg (by omega), if_neg (by omega), if_neg h20, if_pos (by omega)]
        have hshi : (m : Int) - a - 8 < recLen xs a := by omega
        generalize recLen xs a = L at *
        generalize recSum xs a = C at *
        go_enter Try.func59, Try.ntmps59
        go_wp2_with fail
        refine G1.out.mono ?_
        rintro e w1 ⟨rfl, rfl⟩
        go_wp2_with fail
        go_ret3
        exact ⟨.inl ⟨by omega, by rw [he]; rfl⟩, Below.refl _ _⟩
      · have hshi : ¬ (m : Int) - a - 8 < recLen xs a := by omega
        obtain ⟨B4, hcut4, hB4⟩ := cut_lh (P := Try.prog) Try.underlying35 (size_of_info info_u8) A m cap a (a + 4) (a : Int) ((a : Int) + 4) rfl (by omega) (by omega) (by omega) hc
        obtain ⟨B8, hcut8, hB8⟩ := cut_lh (P := Try.prog) Try.underlying35 (size_of_info info_u8) A m cap (a + 8) (a + 8 + recLen xs a) ((a : Int) + 8) ((a : Int) + 8 + (recLen xs a : Int)) (by omega) (by omega) (by omega) (by omega) hc
        have hr4 := hB4 _ _ hx
        have hr8 := hB8 _ _ hx
        rw [ub_drop, ub_take, show a + 4 - a = 4 by omega] at hr4
        rw [ub_drop, ub_take, show a + 8 + recLen xs a - (a + 8) = recLen xs a by omega] at hr8
        rw [show a + 4 - a = 4 by omega] at hcut4
        rw [show a + 8 + recLen xs a - (a + 8) = recLen xs a by omega] at hcut8
        have hbody : (xs.drop (a + 8)).take (recLen xs a) = recBody xs a := rfl
        rw [hbody] at hr8
        have htwo : RdL (w.alloc (.cells #[.slice B4 4 (cap - a), .slice B8 (recLen xs a) (cap - (a + 8))] 35)).drew (some ⟨w.heap.size, 0, none⟩) 2 [(xs.drop a).take 4, recBody xs a] :=
          rdl_two (w := w) (c := cap - a) (d := cap - (a + 8)) hr4 (by omega) hr8 (by omega) 35
        have hbw := ((Below.refl w.heap.size w).alloc (Nat.le_refl _) (.cells #[.slice B4 4 (cap - a), .slice B8 (recLen xs a) (cap - (a + 8))] 35)).drew
        have hr8b := hr8.below hbw
        have hbl : (recBody xs a).length = recLen xs a := hr8b.len
        have h4l : ((xs.drop a).take 4).length = 4 := hr4.len
        clear hB4 hB8 hr4 hr8 hbody hx
        have Hflat : Hid ([(xs.drop a).take 4, recBody xs a].flatten = (xs.drop a).take 4 ++ recBody xs a) := Lib.hid (by simp)
        have hw4 : IntKind.i64.wrap ((a : Int) + 4) = (a : Int) + 4 := IntWalk.i64_in _ (by omega)
        have hw8 : IntKind.i64.wrap ((a : Int) + 8) = (a : Int) + 8 := IntWalk.i64_in _ (by omega)
        have Hw4 := Lib.hid hw4
        have Hw8 := Lib.hid hw8
        clear hw4 hw8
        by_cases hcs : CRC.crc 0 (nat8 ((xs.drop a).take 4 ++ recBody xs a)) = recSum xs a
        · have he : nextErr xs a = 0 := by unfold nextErr; rw [if_neg (by omega), if_neg (by omega), if_neg h20, if_neg (by omega), if_pos hcs]
          have Hcs := Lib.hid hcs
          have HwC : Hid (IntKind.u64.wrap ((recSum xs a : Nat) : Int) = ((recSum xs a : Nat) : Int)) := Lib.hid (by rw [IntKind.wrap_u64]; omega)
          have HP : Hid (∀ e w', (∃ g c, e = .returned (.tuple #[.slice (some ⟨g, 0, none⟩) (recLen xs a) c, .int .i64 ((a + 8 + recLen xs a : Nat) : Int), .int .i64 0]) ∧
              w'.ownsRow w.heap.size 5 1 (.slice (some ⟨g, 0, none⟩) (recLen xs a) c) (recLen xs a) (ub (recBody xs a))) → NextPost w.heap.size xs a e w') := Lib.hid (fun e w' h => .inr ⟨he, h⟩)
          clear hcs he
          generalize hL : recLen xs a = L at *
          generalize hC : recSum xs a = C at *
          clear hL hC
          go_enter Try.func59, Try.ntmps59
          go_wp2_with fail
          refine G1.out.mono ?_
          rintro e w1 ⟨rfl, rfl⟩
          go_wp2_with fail
          refine G2.out.mono ?_
          rintro e w1 ⟨rfl, rfl⟩
          go_wp2_with fail
          have hw4 := Hw4.out
          have hw8 := Hw8.out
          have hwC := HwC.out
          go_region_held3 (fun w' => True) (trivial) (first | (go_at_call 63; refine (refof_calls _ 2 2 _ _ htwo (by decide) (fun l hl => by simp at hl; rcases hl with rfl | rfl <;> omega)).mono ?_; rintro e w2 ⟨rfl, rfl⟩; rw [Hflat.out, Hcs.out]))
          clear hw4 hw8 htwo
          have hr9 := hr8b.below ((Below.refl _ _).alloc (Nat.le_refl _) (.cells #[] 5))
          have hown := own_empty (w.alloc (.cells #[.slice B4 4 (cap - a), .slice B8 L (cap - (a + 8))] 35)).drew (base := w.heap.size) (by simp) 5
          have hb3 := hbw.alloc hbw.size (.cells #[] 5)
          rw [show (w.alloc (.cells #[.slice B4 4 (cap - a), .slice B8 L (cap - (a + 8))] 35)).drew.heap.size = w.heap.size + 1 by simp] at hown
          clear hr8b
          go_wp2_with (at_builtin; refine wpList_app rfl _ _ _ rfl 5 (.int .u8 0) 1 Try.underlying35 info_u8 rfl (by decide) w.heap.size rfl hown rfl hr9 (ub_one _) ?_ ?_ ?_)
          case _ => omega
          case _ => simp; omega
          case _ =>
            intro v' w4 hown4 hg4 hat
            have hb4 := hb3.grown hg4 hb3.size (fun k hk => (own_base hown k hk))
            have hform : ∃ g c, v' = .slice (some ⟨g, 0, none⟩) L c := by
              rcases hown4.2 with ⟨rfl, _⟩ | ⟨g, c, cur, rfl, _⟩
              · rcases hat with hat | hat <;> simp [Value.ownBlock] at hat
              · exact ⟨g, c, by simp⟩
            obtain ⟨g, c, rfl⟩ := hform
            clear hown hg4 hb3 hr9 hat
            go_wp2_with fail
            go_ret3
            refine ⟨HP.out _ _ ⟨g, c, ?_, by simpa using hown4⟩, hb4⟩
            simp
        · have he : nextErr xs a = 4 := by unfold nextErr; rw [if_neg (by omega), if_neg (by omega), if_neg h20, if_neg (by omega), if_neg hcs]
          have hRl := CRC.crc_lt 0 (nat8 ((xs.drop a).take 4 ++ recBody xs a))
          generalize hR : CRC.crc 0 (nat8 ((xs.drop a).take 4 ++ recBody xs a)) = R at *
          have HR := Lib.hid hR
          clear hR
          have HwR : Hid (IntKind.u64.wrap (R : Int) = (R : Int)) := Lib.hid (by rw [IntKind.wrap_u64]; omega)
          generalize recLen xs a = L at *
          generalize recSum xs a = C at *
          have hne : ((R : Int) != C) = true := by rw [bne_iff_ne]; omega
          go_enter Try.func59, Try.ntmps59
          go_wp2_with fail
          refine G1.out.mono ?_
          rintro e w1 ⟨rfl, rfl⟩
          go_wp2_with fail
          refine G2.out.mono ?_
          rintro e w1 ⟨rfl, rfl⟩
          go_wp2_with fail
          have hw4 := Hw4.out
          have hw8 := Hw8.out
          have hwR := HwR.out
          go_region_held3 (fun w' => True) (trivial) (first | (go_at_call 63; refine (refof_calls _ 2 2 _ _ htwo (by decide) (fun l hl => by simp at hl; rcases hl with rfl | rfl <;> omega)).mono ?_; rintro e w2 ⟨rfl, rfl⟩; rw [Hflat.out, HR.out]))
          clear hw4 hw8
          go_wp2_with fail
          go_ret3
          exact ⟨.inl ⟨by omega, by rw [he]; rfl⟩, hbw⟩
set_option maxHeartbeats 2000000 in
theorem ref3scan_calls (A : Option Addr) (m cap : Nat) (xs : List UInt8) (w : World) (hx : Rd w A m (ub xs)) (hc : m ≤ cap) (hm : m ≤ 1073741824) :
    Calls Try.prog 25 #[.slice A m cap] w fun e w' => (∃ B n c G cs, e = .returned (.tuple #[.slice B n c, .int .i64 ((scanOf xs).2 : Int)]) ∧ n = (scanOf xs).1.length ∧ n ≤ c ∧ w'.ownsRow w.heap.size 35 1 (.slice B n c) n cs ∧ OwnL w' w.heap.size G cs (scanOf xs).1) ∧ Below w.heap.size w w' := by
  have hl := hx.len
  go_enter Try.func25, Try.ntmps25
  go_wp2_with fail
  go_loopw [4, 5] (fun s i wr => ∃ (ls : List (List UInt8)) (a k : Nat) (G : Nat → Nat) (cs : List Value), Reach xs ls a ∧ i = .int .i64 (a : Int) ∧ Hid (k = ls.length) ∧ wr.ownsRow w.heap.size 35 1 s k cs ∧ OwnL wr w.heap.size G cs ls ∧ Below w.heap.size w wr) (fun _ i _ => m - (intOf i).toNat)
  case atStart => exact ⟨[], 0, 0, _, [], Reach.start, rfl, rfl, World.ownsRow_nil _ _ _ _, OwnL.nil_ _ _, Below.refl _ _⟩
  case round =>
    obtain ⟨ls, a, k, G, cs, hreach, rfl, Hk, hown, hol, hbel⟩ := hrel
    have hb := hreach.bound
    rw [hl] at hb
    obtain ⟨C, c3, rfl, hcc, hrd⟩ := own_rd hown
    go_wp2_with fail
    refine (ref3next_calls A m cap xs a _ (hx.below hbel) hc hm hb.1).mono ?_
    rintro e w1 ⟨hp, hb1⟩
    by_cases hst : nextErr xs a = 0
    · rcases hp with ⟨h, _⟩ | ⟨_, g, c, rfl, ho⟩
      · exact absurd hst h
      have hnok := next_ok hst
      rw [hl] at hnok
      have hgw := (ho.lt g rfl).1
      have hol1 := hol.below hb1
      have hbl := body_length hst
      rw [← hbl] at ho
      have hol2 := hol.snoc hol1 hgw hbel.size ho
      have hreach2 := hreach.step hst
      rw [hbl] at hol2
      have hown1 := own_below hown hb1
      have hown2 := hown1.alloc (.cells #[.slice (some ⟨g, 0, none⟩) (recLen xs a) c] 35)
      have hr1 := rd_one w1 (.slice (some ⟨g, 0, none⟩) (recLen xs a) c) 35
      have hbel1 := below_then hbel hb1
      have hbel2 := hbel1.alloc hbel1.size (.cells #[.slice (some ⟨g, 0, none⟩) (recLen xs a) c] 35)
      have hsz := hbel1.size
      have Hk2 : Hid (k + 1 = (ls ++ [recBody xs a]).length) := Lib.hid (by rw [List.length_append, ← Hk.out]; rfl)
      have hkb : k ≤ 1073741824 := by have := Hk.out; omega
      clear hown hown1 hol hol1 ho hreach hrd hst hbl hb1 Hk
      generalize ls ++ [recBody xs a] = ls2 at *
      generalize hG2 : (fun j => if j = ls.length then g else G j) = G2 at *
      clear hG2
      generalize recLen xs a = L at *
      go_wp2_with (at_builtin; refine wpList_app rfl _ _ _ rfl 35 (.slice none 0 0) 24 Try.underlying36 info_sl2 rfl (by decide) w.heap.size rfl hown2 rfl hr1 (one_one rfl) ?_ ?_ ?_)
      case _ => omega
      case _ => simp; omega
      case _ =>
        intro v' w2 hown3 hg2 _
        have hb3 := hbel2.grown hg2 hbel2.size (fun k hk => (own_base hown2 k hk))
        have hol3 := hol2.move (w' := w2) (fun g c _ hgc => (hg2.block g (heap_lt (alloc_old hgc)) (own_ne_blk hown2 (alloc_old hgc) (by decide))).trans (alloc_old hgc))
        clear hown2 hol2 hg2 hr1 hbel2 hbel1
        go_wp2_with fail
        go_roundw
        case rel => exact ⟨ls2, a + 8 + L, k + 1, G2, _, hreach2, by go_num, Hk2, hown3, hol3, hb3⟩
        case measure => simp [intOf]; omega
    · rcases hp with ⟨_, rfl⟩ | ⟨h, _⟩
      · have hd := hreach.done hst
        have he0 : ((nextErr xs a : Int) != 0) = true := by rw [bne_iff_ne]; omega
        have hE : nextErr xs a ≤ 4 := by unfold nextErr; repeat' split
                                         all_goals omega
        have hfin : ((scanOf xs).2 = a) ∧ ((scanOf xs).1 = ls) := by rw [hd]; exact ⟨rfl, rfl⟩
        have hrd1 := own_below hown hb1
        have hol1 := hol.below hb1
        have hbel1 := below_then hbel hb1
        have HF := Lib.hid hfin
        clear hd hreach hfin
        generalize nextErr xs a = E at *
        go_wp2_with fail
        go_ret2
        rw [HF.out.1, HF.out.2]
        exact ⟨⟨_, _, _, G, cs, rfl, Hk.out, hcc, hrd1, hol1⟩, hbel1⟩
      · exact absurd h hst
/-- what Next answers at any place -/
def nextAll (xs : List UInt8) (i : Int) : List UInt8 × Int × Int :=
  if i < 0 ∨ (xs.length : Int) < i then ([], 0, 1) else if nextErr xs i.toNat = 0 then (recBody xs i.toNat, ((i.toNat + 8 + recLen xs i.toNat : Nat) : Int), 0) else ([], 0, (nextErr xs i.toNat : Int))
theorem next_all {f : FuncId} (A : Option Addr) (m cap : Nat) (xs : List UInt8) (i : Int) (w : World) (hl : xs.length = m)
    (ho : i < 0 ∨ (m : Int) < i → Calls Try.prog f #[.slice A m cap, .int .i64 i] w fun e w' => e = .returned (.tuple #[.slice none 0 0, .int .i64 0, .int .i64 1]) ∧ w = w')
    (hi : ∀ a : Nat, a ≤ m → Calls Try.prog f #[.slice A m cap, .int .i64 (a : Int)] w fun e w' => NextPost w.heap.size xs a e w' ∧ Below w.heap.size w w') :
    Calls Try.prog f #[.slice A m cap, .int .i64 i] w fun e w' => (∃ v k, e = .returned (.tuple #[v, .int .i64 (nextAll xs i).2.1, .int .i64 (nextAll xs i).2.2]) ∧ k = (nextAll xs i).1.length ∧ w'.ownsRow w.heap.size 5 1 v k (ub (nextAll xs i).1)) ∧ Below w.heap.size w w' := by
  by_cases h : i < 0 ∨ (m : Int) < i
  · refine (ho h).mono ?_
    rintro e w' ⟨rfl, rfl⟩
    have hn : nextAll xs i = ([], 0, 1) := by unfold nextAll; rw [if_pos (by rw [hl]; exact h)]
    rw [hn]
    exact ⟨⟨_, 0, rfl, rfl, World.ownsRow_nil _ _ _ _⟩, Below.refl _ _⟩
  · obtain ⟨a, rfl⟩ : ∃ a : Nat, i = a := ⟨i.toNat, by omega⟩
    refine (hi a (by omega)).mono ?_
    rintro e w' ⟨hp, hb⟩
    refine ⟨?_, hb⟩
    rcases hp with ⟨h0, rfl⟩ | ⟨h0, g, c, rfl, ho⟩
    · have hn : nextAll xs a = ([], 0, (nextErr xs a : Int)) := by unfold nextAll; rw [if_neg (by rw [hl]; exact h), Int.toNat_natCast, if_neg h0]
      rw [hn]
      exact ⟨_, 0, rfl, rfl, World.ownsRow_nil _ _ _ _⟩
    · have hn : nextAll xs a = (recBody xs a, ((a + 8 + recLen xs a : Nat) : Int), 0) := by unfold nextAll; rw [if_neg (by rw [hl]; exact h), Int.toNat_natCast, if_pos h0]
      rw [hn]
      exact ⟨_, recLen xs a, rfl, (body_length h0).symm, ho⟩
theorem fnext_all (A : Option Addr) (m cap : Nat) (xs : List UInt8) (i : Int) (w : World) (hx : Rd w A m (ub xs)) (hc : m ≤ cap) (hm : m ≤ 1073741824) :
    Calls Try.prog 77 #[.slice A m cap, .int .i64 i] w fun e w' => (∃ v k, e = .returned (.tuple #[v, .int .i64 (nextAll xs i).2.1, .int .i64 (nextAll xs i).2.2]) ∧ k = (nextAll xs i).1.length ∧ w'.ownsRow w.heap.size 5 1 v k (ub (nextAll xs i).1)) ∧ Below w.heap.size w w' :=
  next_all A m cap xs i w hx.len (fnext_out A m cap xs i w hx (by omega)) (fun a => fnext_calls A m cap xs a w hx hc hm)
theorem ref3next_all (A : Option Addr) (m cap : Nat) (xs : List UInt8) (i : Int) (w : World) (hx : Rd w A m (ub xs)) (hc : m ≤ cap) (hm : m ≤ 1073741824) :
    Calls Try.prog 59 #[.slice A m cap, .int .i64 i] w fun e w' => (∃ v k, e = .returned (.tuple #[v, .int .i64 (nextAll xs i).2.1, .int .i64 (nextAll xs i).2.2]) ∧ k = (nextAll xs i).1.length ∧ w'.ownsRow w.heap.size 5 1 v k (ub (nextAll xs i).1)) ∧ Below w.heap.size w w' :=
  next_all A m cap xs i w hx.len (ref3next_out A m cap xs i w hx (by omega)) (fun a => ref3next_calls A m cap xs a w hx hc hm)
end Go.Proofs.Ythcajaadbdiggaa
