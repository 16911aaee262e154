/- The walk of the law FrameForged. -/
import Derived.Test.YthidgeeomilhdaaFrameLaws
import Derived.Test.YthidgeeomilhdaaRef3
namespace Go.Proofs.Ythidgeeomilhdaa
open Go.RowKit

theorem own_full (w : World) {base : Nat} (hb : base ≤ w.heap.size) (t : TypeId) (cs : Array Value) (n : Nat) (hn : cs.size = n) (hm : n ≤ maxLen) : (w.alloc (.cells cs t)).ownsRow base t 1 (.slice (some ⟨w.heap.size, 0, none⟩) n n) n cs.toList :=
  ⟨by simp [hn], .inr ⟨w.heap.size, n, cs, rfl, hb, alloc_new w _ _ rfl, Nat.le_refl _, hm, by simp [hn], by rw [Nat.mul_one, ← hn]; exact List.take_of_length_le (by simp)⟩⟩
theorem byteI (n : Nat) : ((UInt8.ofNat n).toNat : Int) = (n : Int) % 256 := by simp
theorem cut_lo_u32 {P : Program} {t e : TypeId} (ht : P.underlying t = some (.slice e)) (hsz : (P.info? e).map (·.size) = some 1) (A : Option Addr) (n c m : Nat) (hm : m ≤ n) (hc : n ≤ c) :
    ∃ A' : Option Addr, (∀ W : World, (Instr.slice t (.slice A n c) (some (.int .u32 (m : Int))) none none).run P W = .ok (.slice A' (n - m) (c - m)) W) ∧ ∀ (w : World) (xs : List UInt8), Rd w A n (ub xs) → Rd w A' (n - m) (ub (xs.drop m)) := by
  obtain ⟨j, hj, hjs⟩ := Option.map_eq_some_iff.1 hsz
  refine ⟨if c = m then A else A.map (·.add m), fun W => ?_, fun w xs h => ⟨by rw [ub_length, List.length_drop]; have := h.len; omega, fun h0 => ?_⟩⟩
  · have hel : P.elem t = e := by simp [Program.elem, ht]
    have hu : P.underlying t = some (.slice (P.elem t)) := by rw [hel]; exact ht
    rw [run_slice_l W t A n c hu .u32 (m : Int) (Int.natCast_nonneg _) (by omega), hel]
    simp [sizeOf, typeInfo, hj, hjs, sliced, Result.andThen]
  · obtain ⟨ad, rfl, hcell⟩ := h.2 (by omega)
    rw [if_neg (by omega)]
    refine ⟨ad.add m, rfl, fun j u hu => ?_⟩
    rw [add_add]
    exact hcell _ u (by rw [← hu, ← ub_drop, List.getElem?_drop])
theorem cut_h_u32 {P : Program} {t e : TypeId} (ht : P.underlying t = some (.slice e)) (hsz : (P.info? e).map (·.size) = some 1) (A : Option Addr) (n c m : Nat) (hm : m ≤ n) (hc : n ≤ c) :
    ∃ A' : Option Addr, (∀ W : World, (Instr.slice t (.slice A n c) none (some (.int .u32 (m : Int))) none).run P W = .ok (.slice A' m c) W) ∧ ∀ (w : World) (xs : List UInt8), Rd w A n (ub xs) → Rd w A' m (ub (xs.take m)) := by
  obtain ⟨j, hj, hjs⟩ := Option.map_eq_some_iff.1 hsz
  refine ⟨if c = 0 then A else A.map (·.add 0), fun W => ?_, fun w xs h => ?_⟩
  · have hel : P.elem t = e := by simp [Program.elem, ht]
    have hu : P.underlying t = some (.slice (P.elem t)) := by rw [hel]; exact ht
    rw [run_slice_h W t A n c hu .u32 (m : Int) (Int.natCast_nonneg _) (by omega), hel]
    simp [sizeOf, typeInfo, hj, hjs, sliced, Result.andThen]
  · have h2 := h.take hm
    rw [ub_take] at h2
    split
    · exact h2
    · refine ⟨h2.1, fun h0 => ?_⟩
      obtain ⟨ad, rfl, hcell⟩ := h2.2 h0
      exact ⟨ad.add 0, rfl, fun j u hu => by rw [add_zero']; exact hcell j u hu⟩

set_option maxHeartbeats 4000000 in
theorem frameforged_walk (w : World) (n : Nat) (hn32 : n < 4294967296) (c : Nat) (hc32 : c < 4294967296) (right : Bool) (A : Option Addr) (m cap : Nat) (xs : List UInt8) (hx : Rd w A m (ub xs)) (hm : m ≤ 140737488355328) (hc : m ≤ cap) :
    Calls Try.prog 8 #[.int .u32 (n : Int), .int .u32 (c : Int), .bool right, .slice A m cap] w fun e w' => e = .returned (.bool true) ∧ Below w.heap.size w w' := by
  go_enter Try.func8, Try.ntmps8
  go_wp2_with fail
  refine (begun_calls _).mono ?_
  rintro e w1 ⟨rfl, hb1⟩
  have hx1 := hx.below hb1
  have hx0 := hx
  clear hx
  by_cases h1 : m ≤ 300
  · obtain ⟨l8, hl8, hcs⟩ : ∃ l8 : List UInt8, l8.length = 8 ∧ ub l8 = [Value.int .u8 ((n : Int) / 16777216), .int .u8 ((n : Int) / 65536 % 256), .int .u8 ((n : Int) / 256 % 256), .int .u8 ((n : Int) % 256), .int .u8 ((c : Int) / 16777216), .int .u8 ((c : Int) / 65536 % 256), .int .u8 ((c : Int) / 256 % 256), .int .u8 ((c : Int) % 256)] := by
      refine ⟨[.ofNat (n / 16777216), .ofNat (n / 65536), .ofNat (n / 256), .ofNat n, .ofNat (c / 16777216), .ofNat (c / 65536), .ofNat (c / 256), .ofNat c], rfl, ?_⟩
      simp only [ub, List.map_cons, List.map_nil, byteI, Int.natCast_ediv]
      have e1 : (n : Int) / 16777216 % 256 = (n : Int) / 16777216 := by omega
      have e2 : (c : Int) / 16777216 % 256 = (c : Int) / 16777216 := by omega
      simp [e1, e2]
    have hown0 : (w1.alloc (.cells #[Value.int .u8 ((n : Int) / 16777216), .int .u8 ((n : Int) / 65536 % 256), .int .u8 ((n : Int) / 256 % 256), .int .u8 ((n : Int) % 256), .int .u8 ((c : Int) / 16777216), .int .u8 ((c : Int) / 65536 % 256), .int .u8 ((c : Int) / 256 % 256), .int .u8 ((c : Int) % 256)] 5)).ownsRow w.heap.size 5 1 (.slice (some ⟨w1.heap.size, 0, none⟩) 8 8) 8 (ub l8) := by rw [hcs]; exact own_full w1 hb1.size 5 #[Value.int .u8 ((n : Int) / 16777216), .int .u8 ((n : Int) / 65536 % 256), .int .u8 ((n : Int) / 256 % 256), .int .u8 ((n : Int) % 256), .int .u8 ((c : Int) / 16777216), .int .u8 ((c : Int) / 65536 % 256), .int .u8 ((c : Int) / 256 % 256), .int .u8 ((c : Int) % 256)] 8 rfl (by decide)
    have hb2 := hb1.alloc hb1.size (.cells #[Value.int .u8 ((n : Int) / 16777216), .int .u8 ((n : Int) / 65536 % 256), .int .u8 ((n : Int) / 256 % 256), .int .u8 ((n : Int) % 256), .int .u8 ((c : Int) / 16777216), .int .u8 ((c : Int) / 65536 % 256), .int .u8 ((c : Int) / 256 % 256), .int .u8 ((c : Int) % 256)] 5)
    have hx2 := hx1.below ((Below.refl w1.heap.size w1).alloc (Nat.le_refl _) (.cells #[Value.int .u8 ((n : Int) / 16777216), .int .u8 ((n : Int) / 65536 % 256), .int .u8 ((n : Int) / 256 % 256), .int .u8 ((n : Int) % 256), .int .u8 ((c : Int) / 16777216), .int .u8 ((c : Int) / 65536 % 256), .int .u8 ((c : Int) / 256 % 256), .int .u8 ((c : Int) % 256)] 5))
    clear hcs
    go_wp2_with (at_builtin; refine wpList_app rfl (.tmp 47) (.tmp 48) _ rfl 5 (.int .u8 0) 1 Try.underlying22 info_u8 rfl (by decide) w.heap.size rfl hown0 rfl hx2 (ub_one _) ?_ hb2.size ?_)
    case _ => omega
    case _ =>
      intro v2 w2 hown2 hg2 _
      have hbel := hb2.grown hg2 hb2.size (fun k hk => (own_base hown0 k hk))
      rw [← ub_append] at hown2
      have hx3 := hx0.below hbel
      have hle := hbel.size
      clear hown0 hg2 hx1 hx2 hb1 hb2
      by_cases h2 : right = true ∧ n ≤ m
      · obtain ⟨rfl, hnm⟩ := h2
        obtain ⟨A1, hcut1, hA1⟩ := cut_h_u32 (P := Try.prog) Try.underlying22 (size_of_info info_u8) A m cap n hnm hc
        obtain ⟨A2, hcut2, hA2⟩ := cut_lo_u32 (P := Try.prog) Try.underlying22 (size_of_info info_u8) A m cap n hnm hc
        have hp1 := hA1 _ _ hx3
        have hnmi : (n : Int) ≤ m := by omega
        go_wp2_with fail
        refine (ref3put_calls none A1 0 0 n cap [] (xs.take n) _ (Rd.none_ _ _) hp1 (by omega) (by decide) (by omega)).mono ?_
        rintro e w3 ⟨⟨u, k, rfl, rfl, hown3⟩, hb3⟩
        have hp2 := hA2 _ _ (hx3.below hb3)
        have hbel := below_then hbel hb3
        have hown3 := own_weaken (base' := w.heap.size) hown3 hle
        rw [List.nil_append] at hown3
        clear hcut1 hA1 hA2 hx3 hp1 hb3 hown2
        go_wp2_with (at_builtin; refine wpList_app rfl (.tmp 65) _ _ rfl 5 (.int .u8 0) 1 Try.underlying22 info_u8 rfl (by decide) w.heap.size rfl hown3 rfl hp2 (ub_one _) ?_ ?_ ?_)
        case _ => omega
        case _ => exact hbel.size
        case _ =>
          intro v4 w4 hownb hg4 _
          have hbel := hbel.grown hg4 hbel.size (fun k hk => (own_base hown3 k hk))
          rw [← ub_append] at hownb
          generalize enc (xs.take n) ++ xs.drop n = ys at hownb
          clear hown3 hg4 hp2 hcut2
          generalize hM : n + 8 + (m - n) = M at hownb
          have hMb : M ≤ 2000 := by omega
          clear hM
          obtain ⟨B, bc, rfl, hbc, hrd⟩ := own_rd hownb
          obtain rfl := hrd.len
          clear hownb
          go_wp2_with fail
          refine (twin_calls B bc ys _ hrd (by omega)).mono ?_
          rintro e w2 ⟨⟨g, rfl, hg, hT⟩, hb2⟩
          have hrd2 := hrd.below hb2
          have hbel := below_then hbel hb2
          clear hb2 hrd
          go_wp2_with fail
          refine (fnext_all (some ⟨g, 0, none⟩) ys.length (ys.length + 3) ys 0 _ (twin_rd hT) (by omega) (by omega)).mono ?_
          rintro e w3 ⟨⟨v1, k1, rfl, hk1, ho1⟩, hb3⟩
          have hrd3 := hrd2.below hb3
          have hT3 := (hb3.block g (heap_lt hT)).trans hT
          have hbel := below_then hbel hb3
          clear hb3 hrd2 hT
          go_wp2_with fail
          refine (ref3next_all B ys.length bc ys 0 _ hrd3 hbc (by omega)).mono ?_
          rintro e w4 ⟨⟨v2, k2, rfl, hk2, ho2⟩, hb4⟩
          obtain ⟨D1, d1, rfl, _, hd1⟩ := own_rd (own_below ho1 hb4)
          obtain ⟨D2, d2, rfl, _, hd2⟩ := own_rd ho2
          have hs1 := run_str (P := Try.prog) (dst := 9) Try.underlying22 Try.underlying5 Try.underlying9 hd1 d1
          have hs2 := run_str (P := Try.prog) (dst := 9) Try.underlying22 Try.underlying5 Try.underlying9 hd2 d2
          have hrd4 := hrd3.below hb4
          have hT4 := (hb4.block g (heap_lt hT3)).trans hT3
          have hbel := below_then hbel hb4
          clear hb4 hrd3 hT3 ho1 ho2 hd1 hd2 hk1 hk2
          generalize nextAll ys 0 = N at *
          generalize txt N.1 = S at *
          generalize N.2.1 = N1 at *
          generalize N.2.2 = N2 at *
          go_wp2_with fail
          refine (kept_calls g B bc ys _ hT4 hrd4 (by omega)).mono ?_
          rintro e w5 ⟨rfl, rfl⟩
          go_wp2_with fail
          go_ret
          exact ⟨rfl, hbel⟩
      · have h2i : ¬ (right = true ∧ (n : Int) ≤ m) := by intro hh; exact h2 ⟨hh.1, by omega⟩
        have hownb := hown2
        generalize l8 ++ xs = ys at hownb
        clear hown2 hx3
        rcases right with _ | _
        · clear h2i
          generalize hM : 8 + m = M at hownb
          have hMb : M ≤ 2000 := by omega
          clear hM
          obtain ⟨B, bc, rfl, hbc, hrd⟩ := own_rd hownb
          obtain rfl := hrd.len
          clear hownb
          go_wp2_with fail
          refine (twin_calls B bc ys _ hrd (by omega)).mono ?_
          rintro e w2 ⟨⟨g, rfl, hg, hT⟩, hb2⟩
          have hrd2 := hrd.below hb2
          have hbel := below_then hbel hb2
          clear hb2 hrd
          go_wp2_with fail
          refine (fnext_all (some ⟨g, 0, none⟩) ys.length (ys.length + 3) ys 0 _ (twin_rd hT) (by omega) (by omega)).mono ?_
          rintro e w3 ⟨⟨v1, k1, rfl, hk1, ho1⟩, hb3⟩
          have hrd3 := hrd2.below hb3
          have hT3 := (hb3.block g (heap_lt hT)).trans hT
          have hbel := below_then hbel hb3
          clear hb3 hrd2 hT
          go_wp2_with fail
          refine (ref3next_all B ys.length bc ys 0 _ hrd3 hbc (by omega)).mono ?_
          rintro e w4 ⟨⟨v2, k2, rfl, hk2, ho2⟩, hb4⟩
          obtain ⟨D1, d1, rfl, _, hd1⟩ := own_rd (own_below ho1 hb4)
          obtain ⟨D2, d2, rfl, _, hd2⟩ := own_rd ho2
          have hs1 := run_str (P := Try.prog) (dst := 9) Try.underlying22 Try.underlying5 Try.underlying9 hd1 d1
          have hs2 := run_str (P := Try.prog) (dst := 9) Try.underlying22 Try.underlying5 Try.underlying9 hd2 d2
          have hrd4 := hrd3.below hb4
          have hT4 := (hb4.block g (heap_lt hT3)).trans hT3
          have hbel := below_then hbel hb4
          clear hb4 hrd3 hT3 ho1 ho2 hd1 hd2 hk1 hk2
          generalize nextAll ys 0 = N at *
          generalize txt N.1 = S at *
          generalize N.2.1 = N1 at *
          generalize N.2.2 = N2 at *
          go_wp2_with fail
          refine (kept_calls g B bc ys _ hT4 hrd4 (by omega)).mono ?_
          rintro e w5 ⟨rfl, rfl⟩
          go_wp2_with fail
          go_ret
          exact ⟨rfl, hbel⟩
        · have h2j : ¬ (n : Int) ≤ m := fun hh => h2i ⟨rfl, hh⟩
          generalize hM : 8 + m = M at hownb
          have hMb : M ≤ 2000 := by omega
          clear hM
          obtain ⟨B, bc, rfl, hbc, hrd⟩ := own_rd hownb
          obtain rfl := hrd.len
          clear hownb
          go_wp2_with fail
          refine (twin_calls B bc ys _ hrd (by omega)).mono ?_
          rintro e w2 ⟨⟨g, rfl, hg, hT⟩, hb2⟩
          have hrd2 := hrd.below hb2
          have hbel := below_then hbel hb2
          clear hb2 hrd
          go_wp2_with fail
          refine (fnext_all (some ⟨g, 0, none⟩) ys.length (ys.length + 3) ys 0 _ (twin_rd hT) (by omega) (by omega)).mono ?_
          rintro e w3 ⟨⟨v1, k1, rfl, hk1, ho1⟩, hb3⟩
          have hrd3 := hrd2.below hb3
          have hT3 := (hb3.block g (heap_lt hT)).trans hT
          have hbel := below_then hbel hb3
          clear hb3 hrd2 hT
          go_wp2_with fail
          refine (ref3next_all B ys.length bc ys 0 _ hrd3 hbc (by omega)).mono ?_
          rintro e w4 ⟨⟨v2, k2, rfl, hk2, ho2⟩, hb4⟩
          obtain ⟨D1, d1, rfl, _, hd1⟩ := own_rd (own_below ho1 hb4)
          obtain ⟨D2, d2, rfl, _, hd2⟩ := own_rd ho2
          have hs1 := run_str (P := Try.prog) (dst := 9) Try.underlying22 Try.underlying5 Try.underlying9 hd1 d1
          have hs2 := run_str (P := Try.prog) (dst := 9) Try.underlying22 Try.underlying5 Try.underlying9 hd2 d2
          have hrd4 := hrd3.below hb4
          have hT4 := (hb4.block g (heap_lt hT3)).trans hT3
          have hbel := below_then hbel hb4
          clear hb4 hrd3 hT3 ho1 ho2 hd1 hd2 hk1 hk2
          generalize nextAll ys 0 = N at *
          generalize txt N.1 = S at *
          generalize N.2.1 = N1 at *
          generalize N.2.2 = N2 at *
          go_wp2_with fail
          refine (kept_calls g B bc ys _ hT4 hrd4 (by omega)).mono ?_
          rintro e w5 ⟨rfl, rfl⟩
          go_wp2_with fail
          go_ret
          exact ⟨rfl, hbel⟩
  · go_wp2_with fail
    go_ret
    exact ⟨rfl, hb1⟩
end Go.Proofs.Ythidgeeomilhdaa
