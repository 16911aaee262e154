/- The walk of the law FrameWrites. -/
import Derived.Test.YthidgeeomilhdaaFrameLaws
import Derived.Test.YthidgeeomilhdaaRef3
namespace Go.Proofs.Ythidgeeomilhdaa
open Go.RowKit

set_option maxHeartbeats 2000000 in
theorem framewrites_walk (w : World) (A : Option Addr) (m cap : Nat) (xs : List UInt8) (hx : Rd w A m (ub xs)) (hm : m ≤ 140737488355328) (hc : m ≤ cap) (A2 : Option Addr) (n cap2 : Nat) (r : List UInt8) (hr : Rd w A2 n (ub r)) (hn : n ≤ 140737488355328) (hc2 : n ≤ cap2) :
    Calls Try.prog 3 #[.slice A m cap, .slice A2 n cap2] w fun e w' => e = .returned (.bool true) ∧ Below w.heap.size w w' := by
  go_enter Try.func3, Try.ntmps3
  go_wp2_with fail
  refine (begun_calls _).mono ?_
  rintro e w1 ⟨rfl, hb1⟩
  have hx1 := hx.below hb1
  have hr1 := hr.below hb1
  have hle1 := hb1.size
  clear hr
  by_cases h1 : m ≤ 16384
  · by_cases h2 : n ≤ 16384
    · obtain rfl := hx1.len
      obtain rfl := hr1.len
      go_wp2_with fail
      refine (twin_calls A cap xs _ hx1 (by omega)).mono ?_
      rintro e w2 ⟨⟨g, rfl, hg, hT⟩, hb2⟩
      have hr2 := hr1.below hb2
      have hx2 := hx1.below hb2
      have hbel := below_then hb1 hb2
      clear hb1 hb2 hr1 hx1
      go_wp2_with fail
      refine (twin_calls A2 cap2 r _ hr2 (by omega)).mono ?_
      rintro e w3 ⟨⟨g2, rfl, hg2, hT2⟩, hb2⟩
      have hr3 := hr2.below hb2
      have hx3 := hx2.below hb2
      have hT3 := (hb2.block g (heap_lt hT)).trans hT
      have hbel := below_then hbel hb2
      clear hb2 hr2 hx2 hT
      go_wp2_with fail
      refine (fput_calls (some ⟨g, 0, none⟩) (some ⟨g2, 0, none⟩) xs.length (xs.length + 3) r.length (r.length + 3) xs r _ (twin_rd hT3) (twin_rd hT2) (by omega) (by omega) (by omega)).mono ?_
      rintro e w4 ⟨⟨u, k, rfl, rfl, hown⟩, hb4⟩
      have hr4 := hr3.below hb4
      have hx4 := hx3.below hb4
      have hgT := heap_lt hT3
      have hle := hbel.size
      have hbel3 := hbel
      have hT4 := (hb4.block g (heap_lt hT3)).trans hT3
      have hU4 := (hb4.block g2 (heap_lt hT2)).trans hT2
      have hbel := below_then hbel hb4
      clear hb4 hr3 hx3 hT3 hT2
      go_wp2_with fail
      refine (ref3put_calls A A2 xs.length cap r.length cap2 xs r _ hx4 hr4 (by omega) (by omega) (by omega)).mono ?_
      rintro e w5 ⟨⟨u2, k2, rfl, rfl, hown2⟩, hb5⟩
      have hr5 := hr4.below hb5
      have hx5 := hx4.below hb5
      have hT5 := (hb5.block g (heap_lt hT4)).trans hT4
      have hU5 := (hb5.block g2 (heap_lt hU4)).trans hU4
      have hown1 := own_below hown hb5
      have hbel := below_then hbel hb5
      obtain ⟨B, c, rfl, hBc, hrd⟩ := own_rd hown1
      obtain ⟨D, d, rfl, _, hrd2⟩ := own_rd hown2
      have hs1 := run_str (P := Try.prog) (dst := 9) Try.underlying22 Try.underlying5 Try.underlying9 hrd c
      have hs2 := run_str (P := Try.prog) (dst := 9) Try.underlying22 Try.underlying5 Try.underlying9 hrd2 d
      clear hb5 hr4 hx4 hT4 hU4 hown hown2 hrd hrd2
      generalize txt (xs ++ enc r) = S at *
      go_wp2_with fail
      refine (kept_calls g A cap xs _ hT5 hx5 (by omega)).mono ?_
      rintro e w6 ⟨rfl, rfl⟩
      go_wp2_with fail
      refine (kept_calls g2 A2 cap2 r _ hU5 hr5 (by omega)).mono ?_
      rintro e w6 ⟨rfl, rfl⟩
      go_wp2_with fail
      refine (spoil_calls _ hown1).mono ?_
      rintro e w6 ⟨rfl, ho⟩
      have hb6 := ho.below (fun k hk => own_base hown1 k hk)
      have hT6 := (hb6.block g hgT).trans hT5
      have hx6 := hx.below (hbel.trans (hb6.mono hle))
      have hbel := hbel.trans (hb6.mono hle)
      clear hown1 ho hb6 hT5 hx5 hU5 hr5
      go_wp2_with fail
      refine (kept_calls g A cap xs _ hT6 hx6 (by omega)).mono ?_
      rintro e w7 ⟨rfl, rfl⟩
      go_wp2_with fail
      go_ret
      exact ⟨rfl, hbel⟩
    · go_wp2_with fail
      go_ret
      exact ⟨rfl, hb1⟩
  · go_wp2_with fail
    go_ret
    exact ⟨rfl, hb1⟩
end Go.Proofs.Ythidgeeomilhdaa
