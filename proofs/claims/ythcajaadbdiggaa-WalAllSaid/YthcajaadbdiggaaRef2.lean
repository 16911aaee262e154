/- Contracts of the reference of sum. -/
import Derived.Test.YthcajaadbdiggaaRows
import Derived.Test.YthcajaadbdiggaaBase
import Derived.Test.YthcajaadbdiggaaMath
import Derived.Test.YthcajaadbdiggaaSum
namespace Go.Proofs.Ythcajaadbdiggaa
open Go.RowKit

theorem two_pow_step (j : Nat) : (2 ^ j % 4294967296 : Nat) * 2 % 4294967296 = 2 ^ (j + 1) % 4294967296 := by
  rw [Nat.pow_succ]; omega
theorem div_pow_step (a j : Nat) : a / 2 ^ j / 2 = a / 2 ^ (j + 1) := by rw [Nat.div_div_eq_div_mul, Nat.pow_succ]
theorem pow_small {j : Nat} (h : j < 32) : 2 ^ j % 4294967296 = 2 ^ j ∧ 2 ^ j ≤ 2147483648 := by
  have h2 : 2 ^ j ≤ 2 ^ 31 := Nat.pow_le_pow_right (by decide) (by omega)
  generalize 2 ^ j = X at *
  exact ⟨Nat.mod_eq_of_lt (by omega), by omega⟩

set_option maxHeartbeats 1000000 in
theorem refxor_calls (a b : Nat) (ha : a < 4294967296) (hb : b < 4294967296) (w : World) :
    Calls Try.prog 79 #[.int .u32 (a : Int), .int .u32 (b : Int)] w fun e w' => e = .returned (.int .u32 ((a ^^^ b : Nat) : Int)) ∧ w = w' := by
  go_enter Try.func79, Try.ntmps79
  go_wp2_with fail
  go_loop [0, 1, 5, 6, 7] (fun s0 s1 s5 s6 i => ∃ j : Nat, j ≤ 32 ∧ i = .int .i64 j ∧ s0 = .int .u32 ((a / 2 ^ j : Nat) : Int) ∧ s1 = .int .u32 ((b / 2 ^ j : Nat) : Int) ∧ s5 = .int .u32 (((a ^^^ b) % 2 ^ j : Nat) : Int) ∧ s6 = .int .u32 ((2 ^ j % 4294967296 : Nat) : Int)) (fun _ _ _ _ i => 32 - (intOf i).toNat)
  case atStart => exact ⟨0, Nat.zero_le _, rfl, by simp, by simp, by simp [Nat.mod_one], rfl⟩
  case round =>
    obtain ⟨j, hj, rfl, rfl, rfl, rfl, rfl⟩ := hrel
    by_cases hlt : j < 32
    · have Hs := Lib.hid (CRC.xor_step a b j)
      have Hp := Lib.hid (pow_small hlt)
      have Ht := Lib.hid (two_pow_step j)
      have Ha := Lib.hid (div_pow_step a j)
      have Hb := Lib.hid (div_pow_step b j)
      have b1 : a / 2 ^ j < 4294967296 := Nat.lt_of_le_of_lt (Nat.div_le_self _ _) ha
      have b2 : b / 2 ^ j < 4294967296 := Nat.lt_of_le_of_lt (Nat.div_le_self _ _) hb
      have b3 : (a ^^^ b) % 2 ^ j < 2 ^ j := Nat.mod_lt _ (Nat.pow_pos (by decide))
      have b4 := (pow_small hlt).2
      have b5 := (pow_small hlt).1
      generalize a / 2 ^ j = A at *
      generalize b / 2 ^ j = B at *
      generalize (a ^^^ b) % 2 ^ j = V at *
      generalize hU : 2 ^ j % 4294967296 = U at *
      rw [← b5] at b3 b4
      clear hU b5
      by_cases hpar : (A + B) % 2 = 1
      · have hp1 : ((A : Int) + B) % 4294967296 % 2 = 1 := by omega
        go_wp2_with fail
        go_round
        case rel =>
          refine ⟨j + 1, by omega, by go_num, by rw [← Ha.out]; go_num, by rw [← Hb.out]; go_num, ?_, by rw [← Ht.out]; go_num⟩
          rw [Hs.out, if_pos hpar, ← Hp.out.1]
          go_num
        case measure => simp [intOf]; omega
      · have hp1 : ¬ ((A : Int) + B) % 4294967296 % 2 = 1 := by omega
        go_wp2_with fail
        go_round
        case rel =>
          refine ⟨j + 1, by omega, by go_num, by rw [← Ha.out]; go_num, by rw [← Hb.out]; go_num, ?_, by rw [← Ht.out]; go_num⟩
          rw [Hs.out, if_neg hpar]
          go_num
        case measure => simp [intOf]; omega
    · obtain rfl : j = 32 := by omega
      have h32 : (a ^^^ b) % 2 ^ 32 = a ^^^ b := Nat.mod_eq_of_lt (Nat.xor_lt_two_pow (n := 32) ha hb)
      rw [h32]
      clear h32
      go_wp2_with fail
      go_ret
      exact ⟨rfl, rfl⟩

theorem stp_eq (c x : Nat) : CRC.stp (c ^^^ x) = (if (c + x) % 2 = 1 then c / 2 ^^^ 2197175160 else c / 2) ^^^ x / 2 := by
  unfold CRC.stp
  rw [CRC.xor_half, CRC.xor_mod2]
  by_cases h : (c + x) % 2 = 1
  · rw [if_pos h, if_pos h, Nat.xor_assoc, Nat.xor_comm (x / 2), ← Nat.xor_assoc]
  · rw [if_neg h, if_neg h, Nat.xor_zero]

theorem byte_zero (x : UInt8) : x.toNat / 2 ^ 8 = 0 := Nat.div_eq_of_lt (by have := x.toNat_lt; omega)

set_option maxHeartbeats 1000000 in
theorem refbytes_calls (c : Nat) (hc : c < 4294967296) (A : Option Addr) (n cap : Nat) (xs : List UInt8) (w : World) (hr : Rd w A n (ub xs)) (hn : n ≤ 140737488355328) :
    Calls Try.prog 76 #[.int .u32 (c : Int), .slice A n cap] w fun e w' => e = .returned (.int .u32 (CRC.raw c (nat8 xs) : Int)) ∧ w = w' := by
  go_enter Try.func76, Try.ntmps76
  go_wp2_with fail
  go_loop [0, 5] (fun s i => ∃ k : Nat, k ≤ n ∧ i = .int .i64 k ∧ s = .int .u32 (CRC.raw c (nat8 (xs.take k)) : Int)) (fun _ i => n - (intOf i).toNat)
  case atStart => exact ⟨0, Nat.zero_le _, rfl, rfl⟩
  case round =>
    obtain ⟨k, hk, rfl, rfl⟩ := hrel
    have hB : CRC.raw c (nat8 (xs.take k)) < 4294967296 := CRC.raw_lt _ hc (nat8_lt _)
    by_cases hlt : k < n
    · obtain ⟨ad, x, rfl, hx, hcell⟩ := hr.byte hlt
      have Hx := Lib.hid (raw_take c hx)
      have hx8 := x.toNat_lt
      clear hx
      generalize CRC.raw c (nat8 (xs.take k)) = r at *
      go_wp2_with fail
      go_loop [0, 6, 7] (fun s y i => ∃ (j q : Nat), j ≤ 8 ∧ i = .int .i64 j ∧ q < 4294967296 ∧ Hid (q ^^^ (x.toNat / 2 ^ j) = CRC.stpN j (r ^^^ x.toNat)) ∧ s = .int .u32 (q : Int) ∧ y = .int .u32 ((x.toNat / 2 ^ j : Nat) : Int)) (fun _ _ i => 8 - (intOf i).toNat)
      case atStart => exact ⟨0, r, Nat.zero_le _, rfl, hB, (by simp [CRC.stpN] : _ = _), rfl, by rw [Nat.pow_zero, Nat.div_one]⟩
      case round =>
        obtain ⟨j, q, hj, rfl, hq, HQ, rfl, rfl⟩ := hrel
        by_cases hlt2 : j < 8
        · have Hs := Lib.hid (CRC.stpN_succ j (r ^^^ x.toNat))
          have Hd := Lib.hid (div_pow_step x.toNat j)
          have b1 : x.toNat / 2 ^ j < 256 := Nat.lt_of_le_of_lt (Nat.div_le_self _ _) hx8
          generalize x.toNat / 2 ^ j = X at *
          have He := Lib.hid (stp_eq q X)
          by_cases hpar : (q + X) % 2 = 1
          · have hp1 : ((q : Int) + X) % 4294967296 % 2 = 1 := by omega
            have hq2 : q / 2 < 4294967296 := by omega
            have hq3 : q / 2 ^^^ 2197175160 < 4294967296 := Nat.xor_lt_two_pow (n := 32) hq2 (by decide)
            go_wp2_with fail
            refine (refxor_calls (q / 2) 2197175160 hq2 (by decide) _).mono ?_
            rintro e w' ⟨rfl, rfl⟩
            go_wp2_with fail
            go_round
            case rel =>
              refine ⟨j + 1, q / 2 ^^^ 2197175160, by omega, by go_num, hq3, (?_ : _ = _), by go_num, by rw [← Hd.out]; go_num⟩
              rw [← Hd.out, Hs.out, ← HQ.out, He.out, if_pos hpar]
            case measure => simp [intOf]; omega
          · have hp1 : ¬ ((q : Int) + X) % 4294967296 % 2 = 1 := by omega
            go_wp2_with fail
            go_round
            case rel =>
              refine ⟨j + 1, q / 2, by omega, by go_num, by omega, (?_ : _ = _), by go_num, by rw [← Hd.out]; go_num⟩
              rw [← Hd.out, Hs.out, ← HQ.out, He.out, if_neg hpar]
            case measure => simp [intOf]; omega
        · obtain rfl : j = 8 := by omega
          have hqe : q = CRC.byt r x.toNat := by
            have := HQ.out
            rw [byte_zero, Nat.xor_zero] at this
            exact this
          have Hqe := Lib.hid hqe
          clear hqe HQ
          go_wp2_with fail
          go_round
          case rel => exact ⟨k + 1, by omega, by go_num, by rw [Hx.out, ← Hqe.out]⟩
          case measure => simp [intOf]; omega
    · obtain rfl : k = n := by omega
      rw [List.take_of_length_le (by have := hr.len; omega)]
      go_wp2_with fail
      go_ret
      exact ⟨rfl, rfl⟩

theorem flat_take2 {ls : List (List UInt8)} {k : Nat} {l : List UInt8} (c : Nat) (h : ls[k]? = some l) : CRC.raw c (nat8 ((ls.take (k + 1)).flatten)) = CRC.raw (CRC.raw c (nat8 ((ls.take k).flatten))) (nat8 l) := by
  rw [flat_take h, CRC.raw_append]

set_option maxHeartbeats 400000 in
theorem refof_calls (A : Option Addr) (n cap : Nat) (ls : List (List UInt8)) (w : World) (hr : RdL w A n ls) (hn : n ≤ 140737488355328) (hm : ∀ l ∈ ls, l.length ≤ 140737488355328) :
    Calls Try.prog 63 #[.slice A n cap] w fun e w' => e = .returned (.int .u32 (CRC.crc 0 (nat8 ls.flatten) : Int)) ∧ w = w' := by
  go_enter Try.func63, Try.ntmps63
  go_wp2_with fail
  go_loop [3, 4] (fun s i => ∃ k : Nat, k ≤ n ∧ i = .int .i64 k ∧ s = .int .u32 (CRC.raw 4294967295 (nat8 (ls.take k).flatten) : Int)) (fun _ i => n - (intOf i).toNat)
  case atStart => exact ⟨0, Nat.zero_le _, rfl, rfl⟩
  case round =>
    obtain ⟨k, hk, rfl, rfl⟩ := hrel
    have hB : CRC.raw 4294967295 (nat8 (ls.take k).flatten) < 4294967296 := CRC.raw_lt _ (by decide) (nat8_lt _)
    by_cases hlt : k < n
    · obtain ⟨ad, l, B, c, rfl, hl, hcell, _, hrl⟩ := hr.at_ hlt
      have hml := hm l (List.mem_of_getElem? hl)
      have Hy := Lib.hid (flat_take2 4294967295 hl)
      clear hl
      generalize CRC.raw 4294967295 (nat8 (ls.take k).flatten) = r at *
      go_wp2_with fail
      refine (refbytes_calls r hB _ _ _ l _ hrl hml).mono ?_
      rintro e w' ⟨rfl, rfl⟩
      go_wp2_with fail
      go_round
      case rel => exact ⟨k + 1, by omega, by go_num, by rw [Hy.out]⟩
      case measure => simp [intOf]; omega
    · obtain rfl : k = n := by omega
      rw [List.take_of_length_le (by have := hr.len; omega)] at hB ⊢
      have e1 : ((CRC.crc 0 (nat8 ls.flatten) : Nat) : Int) = 4294967295 - (CRC.raw 4294967295 (nat8 ls.flatten) : Int) := by unfold CRC.crc; rw [Nat.sub_zero]; omega
      have E1 := Lib.hid e1
      clear e1
      generalize CRC.raw 4294967295 (nat8 ls.flatten) = r at *
      go_wp2_with fail
      go_ret
      exact ⟨by rw [E1.out]; rfl, rfl⟩
end Go.Proofs.Ythcajaadbdiggaa
