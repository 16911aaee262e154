/- The walk of the law SumBursts. -/
import Derived.Test.YtncmdjidmdclfaaSumLaws
import Derived.Test.YtncmdjidmdclfaaLaw0
import Derived.StillTailTactics
namespace Go.Proofs.Ytncmdjidmdclfaa
open Go.RowKit

/-- bytes, turned by the bits of a number -/
def bxor (xs : List UInt8) (E : Nat) : List UInt8 := List.zipWith (fun x e => x ^^^ UInt8.ofNat e) xs (CRC.le xs.length E)

theorem bxor_get {xs : List UInt8} {j : Nat} {x : UInt8} (E : Nat) (h : xs[j]? = some x) : (bxor xs E)[j]? = some (x ^^^ UInt8.ofNat (E / 256 ^ j % 256)) := by
  have hj : j < xs.length := (List.getElem?_eq_some_iff.1 h).1
  simp [bxor, List.getElem?_zipWith, h, CRC.le_get _ _ _ hj]
theorem bxor_length (xs : List UInt8) (E : Nat) : (bxor xs E).length = xs.length := by simp [bxor, CRC.le_length]
theorem bxor_none {xs : List UInt8} {j : Nat} (E : Nat) (h : xs[j]? = none) : (bxor xs E)[j]? = none := by
  rw [List.getElem?_eq_none_iff] at h ⊢; rw [bxor_length]; exact h
theorem bxor_zero (xs : List UInt8) : bxor xs 0 = xs := by
  apply List.ext_getElem?
  intro j
  cases h : xs[j]? with
  | none => exact bxor_none 0 h
  | some x => rw [bxor_get 0 h]; simp

theorem u8_xor_nat' (x : UInt8) (e : Nat) (he : e < 256) : (x ^^^ UInt8.ofNat e).toNat = x.toNat ^^^ e := by
  rw [UInt8.toNat_xor, UInt8.toNat_ofNat']; congr 1; exact Nat.mod_eq_of_lt he
theorem bxor_nat8 (xs : List UInt8) (E : Nat) : nat8 (bxor xs E) = List.zipWith (· ^^^ ·) (nat8 xs) (CRC.le (nat8 xs).length E) := by
  rw [nat8_length]
  apply List.ext_getElem?
  intro j
  cases h : xs[j]? with
  | none =>
    rw [show (nat8 (bxor xs E))[j]? = none by simp [nat8, bxor_none E h]]
    simp [List.getElem?_zipWith, nat8, h]
  | some x =>
    have hj : j < xs.length := (List.getElem?_eq_some_iff.1 h).1
    have e1 : (nat8 (bxor xs E))[j]? = some (x ^^^ UInt8.ofNat (E / 256 ^ j % 256)).toNat := by simp [nat8, bxor_get E h]
    rw [e1, u8_xor_nat' _ _ (Nat.mod_lt _ (by decide))]
    simp [List.getElem?_zipWith, nat8, h, CRC.le_get _ _ _ hj]

theorem pow_byte (p j : Nat) : 2 ^ p / 256 ^ j % 256 = if j = p / 8 then 2 ^ (p % 8) else 0 := by
  rw [show (256 : Nat) ^ j = 2 ^ (8 * j) by rw [show (256 : Nat) = 2 ^ 8 from rfl, ← Nat.pow_mul]]
  by_cases h : 8 * j ≤ p
  · rw [Nat.pow_div h (by decide)]
    by_cases h2 : j = p / 8
    · rw [if_pos h2, show p - 8 * j = p % 8 by omega]
      exact Nat.mod_eq_of_lt (Nat.pow_lt_pow_right (by decide) (show p % 8 < 8 by omega))
    · rw [if_neg h2]
      obtain ⟨q, hq⟩ : ∃ q, p - 8 * j = q + 8 := ⟨p - 8 * j - 8, by omega⟩
      rw [hq, Nat.pow_add]; exact Nat.mul_mod_left _ _
  · rw [if_neg (by omega), Nat.div_eq_of_lt (Nat.pow_lt_pow_right (by decide) (by omega))]

theorem add_pow_xor {E p : Nat} (h : E < 2 ^ p) : E + 2 ^ p = E ^^^ 2 ^ p := by
  have h1 : E ^^^ 2 ^ p = 2 ^ p + E := by
    apply Nat.eq_of_testBit_eq
    intro i
    rw [Nat.testBit_xor, Nat.testBit_two_pow]
    rcases Nat.lt_or_ge i p with hi | hi
    · rw [Nat.testBit_two_pow_add_gt hi]; simp [Nat.ne_of_gt hi]
    · by_cases hip : i = p
      · subst hip
        rw [Nat.testBit_two_pow_add_eq, Nat.testBit_lt_two_pow h]; simp
      · rw [Nat.testBit_lt_two_pow (Nat.lt_of_lt_of_le h (Nat.pow_le_pow_right (by decide) hi))]
        rw [Nat.testBit_lt_two_pow (x := 2 ^ p + E)]
        · have : ¬ p = i := fun e => hip e.symm
          simp [this]
        · calc 2 ^ p + E < 2 ^ p + 2 ^ p := by omega
            _ = 2 ^ (p + 1) := by rw [Nat.pow_succ]; omega
            _ ≤ 2 ^ i := Nat.pow_le_pow_right (by decide) (by omega)
  omega

theorem bxor_step {xs : List UInt8} {E p : Nat} {y : UInt8} (h : E < 2 ^ p) (hy : (bxor xs E)[p / 8]? = some y) :
    (bxor xs E).set (p / 8) (y ^^^ UInt8.ofNat (2 ^ (p % 8))) = bxor xs (E + 2 ^ p) := by
  have hl : p / 8 < (bxor xs E).length := (List.getElem?_eq_some_iff.1 hy).1
  apply List.ext_getElem?
  intro j
  have hb : (E + 2 ^ p) / 256 ^ j % 256 = (E / 256 ^ j % 256) ^^^ (if j = p / 8 then 2 ^ (p % 8) else 0) := by
    rw [add_pow_xor h, ← pow_byte]
    rw [show (256 : Nat) ^ j = 2 ^ (8 * j) by rw [show (256 : Nat) = 2 ^ 8 from rfl, ← Nat.pow_mul], Nat.xor_div_two_pow]
    exact Nat.xor_mod_two_pow (n := 8)
  cases hx : xs[j]? with
  | none =>
    rw [bxor_none _ hx, List.getElem?_eq_none_iff, List.length_set, bxor_length]
    exact List.getElem?_eq_none_iff.1 hx
  | some x =>
    have hlt : E / 256 ^ j % 256 < 256 := Nat.mod_lt _ (by decide)
    rw [bxor_get _ hx, hb]
    by_cases hj : j = p / 8
    · subst hj
      have hr : 2 ^ (p % 8) < 256 := Nat.pow_lt_pow_right (n := 8) (by decide) (by omega)
      rw [List.getElem?_set_self hl, if_pos rfl]
      rw [bxor_get _ hx] at hy
      injection hy with hy
      subst hy
      congr 1
      apply UInt8.toNat_inj.1
      rw [u8_xor_nat' _ _ hr, u8_xor_nat' _ _ hlt, u8_xor_nat' _ _ (Nat.xor_lt_two_pow (n := 8) hlt hr), Nat.xor_assoc]
    · rw [List.getElem?_set_ne (Ne.symm hj), bxor_get _ hx, if_neg hj, Nat.xor_zero]

theorem bit_test {mask j : Nat} (hm : mask < 4294967296) : bits BinOp.and IntKind.u32 ((mask : Int) / 2 ^ j) 1 = ((mask / 2 ^ j % 2 : Nat) : Int) := by
  have e : ((mask : Int) / 2 ^ j) = ((mask / 2 ^ j : Nat) : Int) := by simp
  have hl : mask / 2 ^ j < 4294967296 := Nat.lt_of_le_of_lt (Nat.div_le_self _ _) hm
  rw [e, show (1 : Int) = ((1 : Nat) : Int) from rfl, u32_and_nat _ _ hl (by decide), Nat.and_one_is_mod]
theorem turn_u8 (y : UInt8) {r : Nat} (hr : r < 8) : bits BinOp.xor IntKind.u8 (y.toNat : Int) ((2 : Int) ^ r % 256) = ((y ^^^ UInt8.ofNat (2 ^ r)).toNat : Int) := by
  have h1 : 2 ^ r < 256 := Nat.pow_lt_pow_right (n := 8) (by decide) hr
  have e : ((2 : Int) ^ r % 256) = ((2 ^ r : Nat) : Int) := by
    have : ((2 ^ r : Nat) : Int) = (2 : Int) ^ r := by simp
    rw [← this]
    exact Int.emod_eq_of_lt (Int.natCast_nonneg _) (by omega)
  rw [e, u8_xor_nat _ _ y.toNat_lt h1, u8_xor_nat' _ _ h1]
theorem ub_set (xs : List UInt8) (j : Nat) (y : UInt8) : (ub xs).set j (.int .u8 (y.toNat : Int)) = ub (xs.set j y) := by simp [ub, List.map_set]
theorem mask_step (mask i s : Nat) : (mask % 2 ^ (i + 1)) * 2 ^ s = (mask % 2 ^ i) * 2 ^ s + (if mask / 2 ^ i % 2 = 1 then 2 ^ (s + i) else 0) := by
  rw [CRC.mod_succ, Nat.add_mul]
  congr 1
  rcases Nat.mod_two_eq_zero_or_one (mask / 2 ^ i) with h | h
  · rw [h]; simp
  · rw [h]; simp [Nat.pow_add, Nat.mul_comm]
theorem mask_lt (mask i s : Nat) : (mask % 2 ^ i) * 2 ^ s < 2 ^ (s + i) := by
  rw [Nat.pow_add, Nat.mul_comm (2 ^ s)]
  exact Nat.mul_lt_mul_of_pos_right (Nat.mod_lt _ (Nat.pow_pos (by decide))) (Nat.pow_pos (by decide))
theorem burst_told {xs : List UInt8} {mask s : Nat} (hm : mask < 4294967296) (hs : s + 32 ≤ 8 * xs.length) :
    (CRC.crc 0 (nat8 xs) = CRC.crc 0 (nat8 (bxor xs (mask * 2 ^ s)))) ↔ mask = 0 := by
  have h := CRC.crc_burst (nat8 xs) s mask hm (by rw [nat8_length]; exact hs) (nat8_lt _) (by rw [← bxor_nat8]; exact nat8_lt _)
  rw [← bxor_nat8] at h
  exact h

theorem own_empty (w : World) {base : Nat} (hb : base ≤ w.heap.size) (t : TypeId) : (w.alloc (.cells #[] t)).ownsRow base t 1 (.slice (some ⟨w.heap.size, 0, none⟩) 0 0) 0 [] :=
  ⟨rfl, .inr ⟨_, 0, #[], rfl, hb, alloc_new w _ _ rfl, Nat.le_refl _, by decide, rfl, rfl⟩⟩

set_option maxHeartbeats 1000000 in
theorem sumbursts_walk (w : World) (A : Option Addr) (n cap : Nat) (xs : List UInt8) (hr : Rd w A n (ub xs)) (_hn : n ≤ 140737488355328) (hc : n ≤ cap)
    (k : Int) (h1 : -9223372036854775808 ≤ k) (h2 : k ≤ 9223372036854775807) (mask : Nat) (hm : mask < 4294967296) :
    Calls Try.prog 5 #[.slice A n cap, .int .i64 k, .int .u32 (mask : Int)] w fun e w' => e = .returned (.bool true) ∧ Below w.heap.size w w' := by
  go_enter Try.func5, Try.ntmps5
  go_wp2_with fail
  refine (begun_calls _).mono ?_
  rintro e w1 ⟨rfl, hb1⟩
  by_cases hn1 : n ≤ 4096
  · by_cases hn5 : 5 ≤ n
    · have hr1 := hr.below (hb1.alloc hb1.size (.cells #[] 5))
      have hown := own_empty w1 hb1.size 5
      have hb2 := hb1.alloc hb1.size (.cells #[] 5)
      go_wp2_with (at_builtin; refine wpList_app rfl _ _ _ rfl 5 (.int .u8 0) 1 Try.underlying27 info_u8 rfl (by decide) w.heap.size rfl hown rfl hr1 (ub_one _) ?_ ?_ ?_)
      case _ => omega
      case _ => have := hb1.size; simp; omega
      case _ =>
        intro v' w2 hown2 hg2 _
        have hb3 := hb2.grown hg2 hb2.size (fun k hk => (own_base hown k hk))
        obtain ⟨g, cp, rfl, hg, hgs⟩ := hown2.form (by omega)
        have hr2 := hr.below hb3
        clear hr1 hown hb2 hg2 hb1
        obtain ⟨M, hM⟩ : ∃ M : Nat, (M : Int) = 8 * ((n : Int) - 4) := ⟨8 * (n - 4), by omega⟩
        have HM := Lib.hid hM
        clear hM
        go_wp2_with fail
        rw [← HM.out]
        refine (place_calls k M _ (by have := HM.out; omega) (by have := HM.out; omega) h1 h2).mono ?_
        rintro e w3 ⟨rfl, rfl⟩
        obtain ⟨s, hs⟩ : ∃ s : Nat, k % (M : Int) = s := ⟨(k % (M : Int)).toNat, by have := Int.emod_nonneg k (b := (M : Int)) (by have := HM.out; omega); omega⟩
        have hs1 : s + 32 < 8 * n := by have := Int.emod_lt_of_pos k (b := (M : Int)) (by have := HM.out; omega); have := HM.out; omega
        rw [hs]
        have hlx := hr2.len
        clear hs HM h1 h2
        go_wp2_with fail
        go_loopw [8] (fun i wr => ∃ j : Nat, j ≤ 32 ∧ i = .int .i64 j ∧ wr.ownsRow w.heap.size 5 1 (.slice (some ⟨g, 0, none⟩) n cp) n (ub (bxor xs ((mask % 2 ^ j) * 2 ^ s))) ∧ Below w.heap.size w wr) (fun i _ => 32 - (intOf i).toNat)
        case atStart => exact ⟨0, Nat.zero_le _, rfl, by rw [Nat.pow_zero, Nat.mod_one, Nat.zero_mul, bxor_zero]; exact hown2, hb3⟩
        case round =>
          obtain ⟨j, hj, rfl, hown, hbel⟩ := hrel
          clear hown2
          by_cases hlt : j < 32
          · by_cases hbit : mask / 2 ^ j % 2 = 1
            · have htest : (bits BinOp.and IntKind.u32 ((mask : Int) / 2 ^ j) 1 == 1) = true := by rw [bit_test hm, hbit]; rfl
              have hb1 : (s + j) % 8 < 8 := Nat.mod_lt _ (by decide)
              have hw1 : IntKind.i64.wrap ((s : Int) + j) = ((s + j : Nat) : Int) := IntWalk.i64_in _ (by omega)
              have hw2 : IntKind.i64.wrap (((s + j : Nat) : Int) / 8) = (((s + j) / 8 : Nat) : Int) := by
                rw [show ((s + j : Nat) : Int) / 8 = (((s + j) / 8 : Nat) : Int) by omega]
                exact IntWalk.i64_in _ (by omega)
              have hw3 : ((s + j : Nat) : Int).tmod 8 = (((s + j) % 8 : Nat) : Int) := by rw [Int.tmod_eq_emod_of_nonneg (by omega)]; omega
              have hq : (s + j) / 8 < n := by omega
              obtain ⟨y, hy⟩ : ∃ y, (bxor xs ((mask % 2 ^ j) * 2 ^ s))[(s + j) / 8]? = some y := ⟨_, List.getElem?_eq_getElem (by rw [bxor_length]; omega)⟩
              have hstep := bxor_step (mask_lt mask j s) hy
              have hms := mask_step mask j s
              rw [if_pos hbit] at hms
              rw [← hms] at hstep
              have Hst := Lib.hid hstep
              have hcell := hown.cellAt ((s + j) / 8) (by omega)
              rw [ub_get, hy] at hcell
              have hcell2 : wr.cell? ⟨g, (s + j) / 8, none⟩ = some (.int .u8 (y.toNat : Int)) := hcell
              have hfree := hown.frozenAt ((s + j) / 8)
              have Hown := Lib.hid hown
              clear hown hstep hms hy hcell hm hbit
              have hp : s + j < 32768 := by omega
              generalize hP : s + j = p at hw1 hw2 hw3 hq hcell2 hfree Hst hp hb1
              clear hP
              generalize hQ : p / 8 = q at hw2 hq hcell2 hfree Hst
              generalize hR : p % 8 = r at hw3 Hst hb1
              clear hQ hR
              have hq0 : (0 : Int) ≤ q := by omega
              have hq1 : (q : Int) < n := by omega
              go_wp2_with fail
              go_still_tail 14, (by kernel_rfl)
              go_wp2_with fail
              rw [turn_u8 y hb1]
              have hst := Hown.out.stored q (.int .u8 ((y ^^^ UInt8.ofNat (2 ^ r)).toNat : Int))
              rw [ub_set, Hst.out] at hst
              refine ⟨⟨j + 1, by omega, by go_num, hst.1, ((hbel.setCell (p := ⟨g, q, none⟩) hg _).drew)⟩, by simp [intOf]; omega⟩
            · have htest : (bits BinOp.and IntKind.u32 ((mask : Int) / 2 ^ j) 1 == 1) = false := by
                rw [bit_test hm, show mask / 2 ^ j % 2 = 0 by omega]; rfl
              have hms := mask_step mask j s
              rw [if_neg hbit] at hms
              have hown1 : wr.ownsRow w.heap.size 5 1 (.slice (some ⟨g, 0, none⟩) n cp) n (ub (bxor xs ((mask % 2 ^ (j + 1)) * 2 ^ s))) := by rw [hms]; exact hown
              clear hown
              clear hms
              go_wp2_with fail
              go_roundw
              case rel => exact ⟨j + 1, by omega, by go_num, hown1, hbel⟩
              case measure => simp [intOf]; omega
          · obtain rfl : j = 32 := by omega
            rw [Nat.mod_eq_of_lt (show mask < 2 ^ 32 by omega)] at hown
            have ht := burst_told (xs := xs) hm (s := s) (by omega)
            obtain ⟨B, c2, he, hcc, hrd⟩ := own_rd hown
            injection he with he1 he2 he3
            subst he1; subst he3
            have hrd0 := hr2
            have hone := rdl_one (w := wr) (hr.below hbel) hc 27
            have hbel2 := hbel.alloc hbel.size (.cells #[.slice A n cap] 27)
            have hrd2 := hrd.below ((Below.refl wr.heap.size wr).alloc (Nat.le_refl _) (.cells #[.slice A n cap] 27))
            have hcrcx := hone
            generalize hR : CRC.crc 0 (nat8 xs) = R at ht
            generalize hR2 : CRC.crc 0 (nat8 (bxor xs (mask * 2 ^ s))) = R2 at ht
            have HR := Lib.hid hR
            have HR2 := Lib.hid hR2
            have Ht := Lib.hid ht
            clear hR hR2 ht hcrcx hown
            go_wp2_with fail
            refine (of_calls _ 1 1 [xs] _ hone (by decide) (fun l hl => by simp at hl; subst hl; omega)).mono ?_
            rintro e w4 ⟨rfl, rfl⟩
            rw [show [xs].flatten = xs from by simp, HR.out]
            have htwo := rdl_one_at (c := cp) hrd2 hcc 27 (wr.heap.size + 1) (by simp)
            have hbel3 := hbel2.alloc hbel2.size (.cells #[.slice (some ⟨g, 0, none⟩) n cp] 27)
            clear hone hrd hrd2
            go_wp2_with fail
            refine (of_calls _ 1 1 [bxor xs (mask * 2 ^ s)] _ htwo (by decide) (fun l hl => by simp at hl; subst hl; rw [bxor_length]; omega)).mono ?_
            rintro e w4 ⟨rfl, rfl⟩
            rw [show [bxor xs (mask * 2 ^ s)].flatten = bxor xs (mask * 2 ^ s) from by simp, HR2.out]
            by_cases hz : mask = 0
            · have hRR : R = R2 := Ht.out.2 hz
              subst hRR hz
              go_wp2_with fail
              go_ret
              exact ⟨rfl, hbel3⟩
            · have hRR : ¬ R = R2 := fun e => hz (Ht.out.1 e)
              have hb4 : ((R : Int) == R2) = false := beq_eq_false_iff_ne.2 (by omega)
              have hb5 : ((mask : Int) == 0) = false := beq_eq_false_iff_ne.2 (by omega)
              go_wp2_with fail
              go_ret
              exact ⟨rfl, hbel3⟩
    · go_wp2_with fail
      go_ret
      exact ⟨rfl, hb1⟩
  · go_wp2_with fail
    go_ret
    exact ⟨rfl, hb1⟩
end Go.Proofs.Ytncmdjidmdclfaa
