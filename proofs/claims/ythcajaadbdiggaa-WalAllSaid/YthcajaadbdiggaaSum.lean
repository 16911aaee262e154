/- Contracts of sum.More and sum.Of. -/
import Derived.Test.YthcajaadbdiggaaRows
import Derived.Test.YthcajaadbdiggaaBase
import Derived.Test.YthcajaadbdiggaaMath
namespace Go.Proofs.Ythcajaadbdiggaa
open Go.RowKit

theorem xor_ones {r : Nat} (h : r < 4294967296) : bits BinOp.xor IntKind.u32 IntKind.u32.max (r : Int) = ((4294967295 - r : Nat) : Int) := by
  have e : IntKind.u32.max = ((4294967295 : Nat) : Int) := by decide
  rw [e, u32_xor_nat _ _ (by decide) h, CRC.inv_eq h]

theorem stp_bits {c : Nat} (h : c < 4294967296) :
    bits BinOp.xor IntKind.u32 ((c : Int) / 2) (bits BinOp.and IntKind.u32 (-bits BinOp.and IntKind.u32 (c : Int) 1 % 4294967296) 2197175160) = (CRC.stp c : Int) := by
  have e0 : bits BinOp.and IntKind.u32 (c : Int) 1 = ((c % 2 : Nat) : Int) := by
    rw [show (1 : Int) = ((1 : Nat) : Int) from rfl, u32_and_nat _ _ h (by decide), Nat.and_one_is_mod]
  have e1 : ((c : Int) / 2) = ((c / 2 : Nat) : Int) := by omega
  rw [e0]
  rcases Nat.mod_two_eq_zero_or_one c with h0 | h0
  · have e2 : -(((c % 2 : Nat) : Nat) : Int) % 4294967296 = ((0 : Nat) : Int) := by omega
    rw [e1, e2, show (2197175160 : Int) = ((2197175160 : Nat) : Int) from rfl, u32_and_nat _ _ (by decide) (by decide), u32_xor_nat _ _ (by omega) (by decide)]
    simp [CRC.stp, h0]
  · have e2 : -(((c % 2 : Nat) : Nat) : Int) % 4294967296 = ((4294967295 : Nat) : Int) := by omega
    rw [e1, e2, show (2197175160 : Int) = ((2197175160 : Nat) : Int) from rfl, u32_and_nat _ _ (by decide) (by decide), u32_xor_nat _ _ (by omega) (by decide)]
    simp [CRC.stp, h0]

theorem raw_take {xs : List UInt8} {k : Nat} {x : UInt8} (c : Nat) (h : xs[k]? = some x) : CRC.raw c (nat8 (xs.take (k + 1))) = CRC.byt (CRC.raw c (nat8 (xs.take k))) x.toNat := by
  rw [List.take_add_one, h, nat8_append, CRC.raw_append]; rfl

theorem raw_bound (c : Nat) (xs : List UInt8) : CRC.raw (4294967295 - c) (nat8 xs) < 4294967296 := CRC.raw_lt _ (by omega) (nat8_lt _)
theorem byte_bound {r : Nat} (h : r < 4294967296) (x : UInt8) (j : Nat) : CRC.stpN j (r ^^^ x.toNat) < 4294967296 :=
  CRC.stpN_lt j (Nat.xor_lt_two_pow (n := 32) h (by have := x.toNat_lt; omega))
theorem more_in {r : Nat} (h : r < 4294967296) (x : UInt8) : bits BinOp.xor IntKind.u32 (r : Int) ((x.toNat : Int) % 4294967296) = ((r ^^^ x.toNat : Nat) : Int) := by
  have := x.toNat_lt
  rw [show ((x.toNat : Int) % 4294967296) = ((x.toNat : Nat) : Int) by omega, u32_xor_nat _ _ h (by omega)]

set_option maxHeartbeats 400000 in
theorem more_calls (c : Nat) (hc : c < 4294967296) (A : Option Addr) (n cap : Nat) (xs : List UInt8) (w : World) (hr : Rd w A n (ub xs)) (hn : n ≤ 140737488355328) :
    Calls Try.prog 78 #[.int .u32 (c : Int), .slice A n cap] w fun e w' => e = .returned (.int .u32 (CRC.crc c (nat8 xs) : Int)) ∧ w = w' := by
  go_enter Try.func78, Try.ntmps78
  go_wp2_with fail
  go_loop [0, 12] (fun s i => ∃ k : Nat, k ≤ n ∧ i = .int .i64 k ∧ s = .int .u32 (CRC.raw (4294967295 - c) (nat8 (xs.take k)) : Int)) (fun _ i => n - (intOf i).toNat)
  case atStart => exact ⟨0, Nat.zero_le _, rfl, by rw [xor_ones hc]; rfl⟩
  case round =>
    obtain ⟨k, hk, rfl, rfl⟩ := hrel
    have hB := raw_bound c (xs.take k)
    by_cases hlt : k < n
    · obtain ⟨ad, x, rfl, hx, hcell⟩ := hr.byte hlt
      have Hx := Lib.hid (raw_take (4294967295 - c) hx)
      clear hx
      generalize CRC.raw (4294967295 - c) (nat8 (xs.take k)) = r at *
      go_wp2_with fail
      go_loop [0, 20] (fun s i => ∃ j : Nat, j ≤ 8 ∧ i = .int .i64 j ∧ s = .int .u32 (CRC.stpN j (r ^^^ x.toNat) : Int)) (fun _ i => 8 - (intOf i).toNat)
      case atStart => exact ⟨0, Nat.zero_le _, rfl, by rw [more_in hB]; rfl⟩
      case round =>
        obtain ⟨j, hj, rfl, rfl⟩ := hrel
        have hB2 := byte_bound hB x j
        have Hs := Lib.hid (CRC.stpN_succ j (r ^^^ x.toNat))
        by_cases hlt2 : j < 8
        · generalize CRC.stpN j (r ^^^ x.toNat) = s at *
          go_wp2_with fail
          go_round
          case rel => exact ⟨j + 1, by omega, by go_num, by rw [stp_bits hB2, Hs.out]⟩
          case measure => simp [intOf]; omega
        · obtain rfl : j = 8 := by omega
          go_wp2_with fail
          go_round
          case rel => exact ⟨k + 1, by omega, by go_num, by rw [Hx.out]; rfl⟩
          case measure => simp [intOf]; omega
    · obtain rfl : k = n := by omega
      go_wp2_with fail
      go_ret
      rw [List.take_of_length_le (by have := hr.len; omega)] at hB ⊢
      rw [xor_ones hB]
      exact ⟨rfl, rfl⟩

theorem flat_take {ls : List (List UInt8)} {k : Nat} {l : List UInt8} (h : ls[k]? = some l) : nat8 ((ls.take (k + 1)).flatten) = nat8 ((ls.take k).flatten) ++ nat8 l := by
  rw [List.take_add_one, h]; simp [nat8]

set_option maxHeartbeats 400000 in
theorem of_calls (A : Option Addr) (n cap : Nat) (ls : List (List UInt8)) (w : World) (hr : RdL w A n ls) (hn : n ≤ 140737488355328) (hm : ∀ l ∈ ls, l.length ≤ 140737488355328) :
    Calls Try.prog 72 #[.slice A n cap] w fun e w' => e = .returned (.int .u32 (CRC.crc 0 (nat8 ls.flatten) : Int)) ∧ w = w' := by
  go_enter Try.func72, Try.ntmps72
  go_wp2_with fail
  go_loop [3, 8] (fun s i => ∃ k : Nat, k ≤ n ∧ i = .int .i64 k ∧ s = .int .u32 (CRC.crc 0 (nat8 (ls.take k).flatten) : Int)) (fun _ i => n - (intOf i).toNat)
  case atStart => exact ⟨0, Nat.zero_le _, rfl, by simp [nat8, CRC.crc_nil]⟩
  case round =>
    obtain ⟨k, hk, rfl, rfl⟩ := hrel
    by_cases hlt : k < n
    · obtain ⟨ad, l, B, c, rfl, hl, hcell, _, hrl⟩ := hr.at_ hlt
      have hml := hm l (List.mem_of_getElem? hl)
      have Hx := Lib.hid (CRC.crc_append (c := 0) (by decide) (nat8 (ls.take k).flatten) (nat8 l) (nat8_lt _))
      have Hy := Lib.hid (flat_take hl)
      have hB := CRC.crc_lt 0 (nat8 (ls.take k).flatten)
      clear hl
      generalize CRC.crc 0 (nat8 (ls.take k).flatten) = r at *
      go_wp2_with (go_at_call 78; refine (more_calls _ hB _ _ _ l _ hrl hml).mono ?_; rintro e w' ⟨rfl, rfl⟩)
      go_round
      case rel => exact ⟨k + 1, by omega, by go_num, by rw [Hy.out, Hx.out]⟩
      case measure => simp [intOf]; omega
    · obtain rfl : k = n := by omega
      go_wp2_with fail
      go_ret
      rw [List.take_of_length_le (by have := hr.len; omega)]
      exact ⟨rfl, rfl⟩
end Go.Proofs.Ythcajaadbdiggaa
