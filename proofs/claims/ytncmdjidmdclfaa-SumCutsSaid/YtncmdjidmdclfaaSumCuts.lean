/- The walk of the law SumCuts. -/
import Derived.Test.YtncmdjidmdclfaaSumLaws
import Derived.Test.YtncmdjidmdclfaaLaw0
namespace Go.Proofs.Ytncmdjidmdclfaa
open Go.RowKit

set_option maxHeartbeats 1000000 in
theorem sumcuts_walk (w : World) (A : Option Addr) (n cap : Nat) (xs : List UInt8) (hr : Rd w A n (ub xs)) (hn : n ≤ 140737488355328) (hc : n ≤ cap)
    (A2 : Option Addr) (m cap2 : Nat) (zs : List Int) (hs : Rd w A2 m (zs.map (Value.int .i64))) (hz : ∀ z ∈ zs, -9223372036854775808 ≤ z ∧ z ≤ 9223372036854775807) (hm : m ≤ 140737488355328) (_hc2 : m ≤ cap2) :
    Calls Try.prog 4 #[.slice A n cap, .slice A2 m cap2] w fun e w' => e = .returned (.bool true) ∧ Below w.heap.size w w' := by
  go_enter Try.func4, Try.ntmps4
  go_wp2_with fail
  refine (begun_calls _).mono ?_
  rintro e w1 ⟨rfl, hb1⟩
  by_cases h1 : n ≤ 8192
  · by_cases h2 : m ≤ 512
    · have hr1 := hr.below hb1
      have hs1 := hs.below hb1
      clear hr hs
      go_wp2_with fail
      refine (cut_calls A A2 n cap m cap2 xs zs _ hr1 hc hs1 hz (by omega) (by omega)).mono ?_
      rintro e w2 ⟨⟨B, q, c, ls, rfl, hq, hl, hf⟩, hb2⟩
      have hr2 := hr1.below hb2
      have hbel := below_then hb1 hb2
      have hlen : ls.flatten.length = n := by rw [hf]; exact hr2.len
      have hml : ∀ l ∈ ls, l.length ≤ 8192 := fun l hl => by
        obtain ⟨k, hk⟩ := List.mem_iff_getElem?.1 hl
        have := flat_len hk
        have := flat_le hk
        omega
      have HF := Lib.hid hf
      clear hr1 hs1 hb1 hb2 hf hlen
      go_wp2_with fail
      refine (of_calls none 0 0 [] _ ⟨rfl, fun h => absurd h (by decide)⟩ (by decide) (fun l hl => by simp at hl)).mono ?_
      rintro e w3 ⟨rfl, rfl⟩
      go_wp2_with fail
      go_loop [6, 7] (fun s i => ∃ k : Nat, k ≤ q ∧ i = .int .i64 k ∧ s = .int .u32 (CRC.crc 0 (nat8 (ls.take k).flatten) : Int)) (fun _ i => q - (intOf i).toNat)
      case atStart => exact ⟨0, Nat.zero_le _, rfl, rfl⟩
      case round =>
        obtain ⟨k, hk, rfl, rfl⟩ := hrel
        by_cases hlt : k < q
        · obtain ⟨ad, l, C, c3, rfl, hl', hcell, _, hrl⟩ := hl.at_ hlt
          have hml' := hml l (List.mem_of_getElem? hl')
          have Hx := Lib.hid (CRC.crc_append (c := 0) (by decide) (nat8 (ls.take k).flatten) (nat8 l) (nat8_lt _))
          have Hy := Lib.hid (flat_take hl')
          have hB := CRC.crc_lt 0 (nat8 (ls.take k).flatten)
          clear hl'
          generalize CRC.crc 0 (nat8 (ls.take k).flatten) = r at *
          go_wp2_with fail
          refine (more_calls r hB _ _ _ l _ hrl (by omega)).mono ?_
          rintro e w' ⟨rfl, rfl⟩
          go_wp2_with fail
          go_round
          case rel => exact ⟨k + 1, by omega, by go_num, by rw [Hy.out, Hx.out]⟩
          case measure => simp [intOf]; omega
        · obtain rfl : k = q := by omega
          rw [List.take_of_length_le (by have := hl.len; omega)]
          have HG := Lib.hid (congrArg (fun x => CRC.crc 0 (nat8 x)) HF.out)
          have hone := rdl_one (w := w2) hr2 hc 27
          have hl3 := hl.below ((Below.refl w2.heap.size w2).alloc (Nat.le_refl _) (.cells #[.slice A n cap] 27))
          have hbel3 := hbel.alloc hbel.size (.cells #[.slice A n cap] 27)
          generalize hR : CRC.crc 0 (nat8 ls.flatten) = R at *
          have HR := Lib.hid hR
          clear hR
          go_wp2_with fail
          refine (of_calls _ 1 1 [xs] _ hone (by decide) (fun l hl => by simp at hl; subst hl; have := hr2.len; omega)).mono ?_
          rintro e w3 ⟨rfl, rfl⟩
          rw [show [xs].flatten = xs from by simp, ← HG.out]
          go_wp2_with fail
          refine (of_calls _ k c ls _ hl3 (by omega) (fun l hl => by have := hml l hl; omega)).mono ?_
          rintro e w3 ⟨rfl, rfl⟩
          rw [HR.out]
          go_wp2_with fail
          go_ret
          exact ⟨rfl, hbel3⟩
    · go_wp2_with fail
      go_ret
      exact ⟨rfl, hb1⟩
  · go_wp2_with fail
    go_ret
    exact ⟨rfl, hb1⟩
end Go.Proofs.Ytncmdjidmdclfaa
