import Derived.Test.YtncmdjidmdclfaaSumLaws
import Derived.Test.YtncmdjidmdclfaaRef2
import Derived.Test.YtncmdjidmdclfaaLaw0
namespace Go.Proofs.Ytncmdjidmdclfaa
open Go.RowKit

theorem mem_le {ls : List (List UInt8)} {l : List UInt8} (h : l ∈ ls) : l.length ≤ ls.flatten.length := by
  obtain ⟨k, hk⟩ := List.mem_iff_getElem?.1 h
  have h1 := flat_len hk
  have h2 := flat_le hk
  omega

set_option maxHeartbeats 1000000 in
theorem sumall_walk (A : Option Addr) (n cap : Nat) (ls : List (List UInt8)) (c : Nat) (hc : c < 4294967296) (w : World) (hr : RdL w A n ls) (hn : n ≤ 140737488355328) :
    Calls Try.prog 3 #[.slice A n cap, .int .u32 (c : Int)] w fun e w' => e = .returned (.bool true) ∧ Below w.heap.size w w' := by
  go_enter Try.func3, Try.ntmps3
  go_wp2_with fail
  refine (begun_calls _).mono ?_
  rintro e w1 ⟨rfl, hb1⟩
  have hr1 := hr.below hb1
  by_cases h1 : n ≤ 1024
  · go_wp2_with fail
    refine (sum0_calls A n cap ls 4096 _ hr1 hn (by decide)).mono ?_
    rintro e w2 ⟨⟨r, rfl, hsum⟩, rfl⟩
    by_cases h2 : r ≤ 4096
    · have Hs := Lib.hid (hsum h2)
      have hle : ls.flatten.length ≤ 4096 := by have := Hs.out; omega
      have hml : ∀ l ∈ ls, l.length ≤ 4096 := fun l hl => Nat.le_trans (mem_le hl) hle
      clear hsum
      go_wp2_with fail
      refine (twins_calls A n cap ls _ hr1 (by omega) (fun l hl => by have := hml l hl; omega)).mono ?_
      rintro e w2 ⟨⟨B, c2, cs, rfl, _, hcs, htw⟩, hb2⟩
      have hr2 := hr1.below hb2
      go_wp2_with fail
      refine (joined_calls A n cap ls _ hr2 (by omega) (by omega)).mono ?_
      rintro e w3 ⟨⟨D, m3, c3, rfl, hj⟩, hb3⟩
      have hm3 : m3 ≤ 4096 := by have := hj.len; omega
      have hr3 := hr2.below hb3
      have htw3 := htw.below hb3
      have hcs3 := hcs.below hb3
      have ht3 := htw3.rdl hcs3
      have hbel := below_then (below_then hb1 hb2) hb3
      clear hr hr1 hr2 htw hcs hb1 hb2 hb3
      go_wp2_with fail
      refine (of_calls B n c2 ls _ ht3 (by omega) (fun l hl => by have := hml l hl; omega)).mono ?_
      rintro e w4 ⟨rfl, rfl⟩
      go_wp2_with fail
      refine (refof_calls A n cap ls _ hr3 (by omega) (fun l hl => by have := hml l hl; omega)).mono ?_
      rintro e w4 ⟨rfl, rfl⟩
      generalize CRC.crc 0 (nat8 ls.flatten) = R
      go_wp2_with fail
      refine (more_calls c hc D _ c3 ls.flatten _ hj (by omega)).mono ?_
      rintro e w4 ⟨rfl, rfl⟩
      go_wp2_with fail
      refine (refmore_calls c hc D _ c3 ls.flatten _ hj (by omega)).mono ?_
      rintro e w4 ⟨rfl, rfl⟩
      generalize CRC.crc c (nat8 ls.flatten) = R2
      go_wp2_with fail
      refine (allkept_calls B A n c2 cap _ cs ls _ hcs3 htw3 hr3 (by omega) (fun l hl => by have := hml l hl; omega)).mono ?_
      rintro e w4 ⟨rfl, m, rfl⟩
      go_wp2_with fail
      go_ret
      exact ⟨rfl, below_drewN hbel m⟩
    · clear hsum
      go_wp2_with fail
      go_ret
      exact ⟨rfl, hb1⟩
  · go_wp2_with fail
    go_ret
    exact ⟨rfl, hb1⟩
end Go.Proofs.Ytncmdjidmdclfaa
