/- The walk of the law FrameCuts. -/
import Derived.Test.YthidgeeomilhdaaFrameLaws
import Derived.Test.YthidgeeomilhdaaScanMath
import Derived.Test.YthidgeeomilhdaaFrameAgain
namespace Go.Proofs.Ythidgeeomilhdaa
open Go.RowKit

theorem encs_split {ls : List (List UInt8)} {j : Nat} (hj : j ≤ ls.length) : (ls.map enc).flatten = encs ls j ++ ((ls.drop j).map enc).flatten := by
  have : ls = ls.take j ++ ls.drop j := (List.take_append_drop j ls).symm
  unfold encs
  rw [← List.flatten_append, ← List.map_append, ← this]
/-- records, cut off, are scanned up to the last that is whole -/
theorem scan_cut {ls : List (List UInt8)} (hm : ∀ l ∈ ls, l.length ≤ 1048576) {cut n : Nat} (hn : n ≤ ls.length) (h1 : (encs ls n).length ≤ cut) (h2 : n = ls.length ∨ cut < (encs ls (n + 1)).length) (hc : cut ≤ (encs ls ls.length).length) :
    scanOf ((encs ls ls.length).take cut) = (ls.take n, (encs ls n).length) := by
  have hdrop : ∀ j, j ≤ ls.length → (encs ls j).length ≤ cut → ((encs ls ls.length).take cut).drop (encs ls j).length = (((ls.drop j).map enc).flatten).take (cut - (encs ls j).length) := by
    intro j hj _
    rw [encs_all, encs_split hj, List.drop_take, List.drop_left]
  have hreach : ∀ j, j ≤ n → Reach ((encs ls ls.length).take cut) (ls.take j) (encs ls j).length := by
    intro j
    induction j with
    | zero => intro _; simpa [encs] using Reach.start
    | succ j ih =>
      intro hj
      have hjl : j < ls.length := by omega
      have hl : ls[j]? = some ls[j] := List.getElem?_eq_getElem hjl
      have he := encs_next hl
      have hle : (encs ls (j + 1)).length ≤ cut := Nat.le_trans (encs_le hj) h1
      have hlen : (encs ls (j + 1)).length = (encs ls j).length + (ls[j].length + 8) := by rw [he, List.length_append, enc_length]
      have hd := hdrop j (by omega) (by omega)
      rw [List.drop_eq_getElem_cons hjl, List.map_cons, List.flatten_cons, List.take_append, List.take_of_length_le (show (enc ls[j]).length ≤ cut - (encs ls j).length by rw [enc_length]; omega)] at hd
      obtain ⟨e1, e2, e3⟩ := enc_next hd (hm _ (List.getElem_mem hjl))
      have h := (ih (by omega)).step e1
      rw [e2, e3] at h
      rw [List.take_add_one, hl, show (encs ls (j + 1)).length = (encs ls j).length + 8 + ls[j].length by omega]
      exact h
  have hend : nextErr ((encs ls ls.length).take cut) (encs ls n).length ≠ 0 := by
    have hd := hdrop n hn h1
    rcases h2 with rfl | h2
    · rw [List.drop_length] at hd
      have hc0 : ((encs ls ls.length).take cut).length - (encs ls ls.length).length = 0 := by rw [List.length_take]; omega
      unfold nextErr
      rw [hc0]
      split
      · decide
      · rw [if_pos (by decide)]; decide
    · by_cases hnl : n = ls.length
      · subst hnl
        have hc0 : ((encs ls ls.length).take cut).length - (encs ls ls.length).length = 0 := by rw [List.length_take]; omega
        unfold nextErr
        rw [hc0]
        split
        · decide
        · rw [if_pos (by decide)]; decide
      · have hnl2 : n < ls.length := by omega
        have hl : ls[n]? = some ls[n] := List.getElem?_eq_getElem hnl2
        have he := encs_next hl
        have hlen : (encs ls (n + 1)).length = (encs ls n).length + (ls[n].length + 8) := by rw [he, List.length_append, enc_length]
        rw [List.drop_eq_getElem_cons hnl2, List.map_cons, List.flatten_cons, List.take_append_of_le_length (by rw [enc_length]; omega)] at hd
        exact cut_next hd (by omega) (hm _ (List.getElem_mem hnl2))
  exact (hreach n (Nat.le_refl _)).done hend

theorem own_blk {w : World} {base n size k : Nat} {e : TypeId} {v : Value} {xs : List Value} (h : w.ownsRow base e size v n xs) (hk : v.ownBlock = some k) : ∃ cur, w.heap[k]? = some (.cells cur e (0, 0)) := by
  rcases h.2 with ⟨rfl, _⟩ | ⟨g, cap, cur, rfl, _, hg, _⟩
  · cases hk
  · injection hk with hk; subst hk; exact ⟨cur, hg⟩
theorem info_int : (Try.prog.info? 3).map (fun i => (i.zero, i.size, i.bytes)) = some (some (.int .i64 0), 1, 8) := by kernel_rfl
/-- where the first k records end -/
def endCells (ls : List (List UInt8)) (k : Nat) : List Value := (List.range k).map fun j => .int .i64 ((encs ls (j + 1)).length : Int)
theorem endCells_next (ls : List (List UInt8)) (k : Nat) : endCells ls (k + 1) = endCells ls k ++ [.int .i64 ((encs ls (k + 1)).length : Int)] := by simp [endCells, List.range_succ]
theorem endCells_at {ls : List (List UInt8)} {n k : Nat} (h : k < n) : (endCells ls n)[k]? = some (.int .i64 ((encs ls (k + 1)).length : Int)) := by simp [endCells, List.getElem?_range h]
theorem encs_len {ls : List (List UInt8)} : ∀ k, k ≤ ls.length → (encs ls k).length = (ls.take k).flatten.length + 8 * k
  | 0, _ => by simp [encs]
  | k + 1, h => by
    have hl : ls[k]? = some ls[k] := List.getElem?_eq_getElem (by omega)
    rw [encs_next hl, List.length_append, enc_length, encs_len k (by omega), flat_len hl]; omega

set_option maxRecDepth 10000 in
set_option maxHeartbeats 4000000 in
theorem framecuts_walk (w : World) (A : Option Addr) (n cap : Nat) (ls : List (List UInt8)) (hr : RdL w A n ls) (hn : n ≤ 140737488355328) (hc : n ≤ cap) (a : Int) (ha1 : -9223372036854775808 ≤ a) (ha2 : a ≤ 9223372036854775807) :
    Calls Try.prog 5 #[.slice A n cap, .int .i64 a] w fun e w' => e = .returned (.bool true) ∧ Below w.heap.size w w' := by
  have Hl := Lib.hid hr.len
  have hr0 := hr
  go_enter Try.func5, Try.ntmps5
  go_wp2_with fail
  refine (begun_calls _).mono ?_
  rintro e w1 ⟨rfl, hb1⟩
  have hr1 := hr.below hb1
  clear hr
  by_cases h1 : n ≤ 30
  · go_wp2_with fail
    refine (sum0_calls A n cap ls 8192 _ hr1 hn (by decide)).mono ?_
    rintro e w2 ⟨⟨r, rfl, hsum⟩, rfl⟩
    by_cases h2 : r ≤ 8192
    · have Hsum := Lib.hid (hsum h2)
      have Hml : Hid (∀ l ∈ ls, l.length ≤ 8192) := Lib.hid (fun l hl => by
        obtain ⟨k, hk⟩ := List.mem_iff_getElem?.1 hl
        have e1 := flat_len hk
        have e2 := flat_le hk
        have := Hsum.out
        omega)
      have Hel : Hid (∀ k, k ≤ n → (encs ls k).length ≤ 8192 + 240) := Lib.hid (fun k hk => by
        have e0 := encs_len (ls := ls) k (by rw [Hl.out]; exact hk)
        have e2 : (ls.take k).flatten.length ≤ ls.flatten.length := by
          have e : ls.flatten = (ls.take k).flatten ++ (ls.drop k).flatten := by rw [← List.flatten_append, List.take_append_drop]
          rw [e, List.length_append]; omega
        have := Hsum.out
        omega)
      clear hsum
      go_wp2_with fail
      go_loopw [5, 6, 7] (fun s t i wr => ∃ k q : Nat, k ≤ n ∧ i = .int .i64 k ∧ Hid (q = (encs ls k).length) ∧ wr.ownsRow w.heap.size 5 1 s q (ub (encs ls k)) ∧ wr.ownsRow w.heap.size 3 1 t k (endCells ls k) ∧ Below w.heap.size w wr) (fun _ _ i _ => n - (intOf i).toNat)
      case atStart => exact ⟨0, 0, Nat.zero_le _, rfl, rfl, World.ownsRow_nil _ _ _ _, World.ownsRow_nil _ _ _ _, hb1⟩
      case round =>
        obtain ⟨k, q, hk, rfl, Hq, hown, hends, hbel⟩ := hrel
        have hqb : q ≤ 8432 := by rw [Hq.out]; exact Hel.out k hk
        obtain ⟨C, c3, rfl, hC3, hrC⟩ := own_rd hown
        by_cases hlt : k < n
        · obtain ⟨ad, l, D, d, rfl, hl2, hcell, hld, hrl2⟩ := (hr0.below hbel).at_ hlt
          have hml := Hml.out l (List.mem_of_getElem? hl2)
          have hs2 := hbel.size
          clear hown
          go_wp2_with fail
          refine (fput_calls C D q c3 l.length d (encs ls k) l _ hrC hrl2 hld (by omega) (by omega)).mono ?_
          rintro e w4 ⟨⟨u, q2, rfl, hq2, hown2⟩, hb4⟩
          rw [← encs_next hl2] at hown2
          have Hq2 : Hid (q2 = (encs ls (k + 1)).length) := Lib.hid (by rw [encs_next hl2, List.length_append, enc_length, ← Hq.out]; omega)
          have hq2b : q2 ≤ 8432 := by rw [Hq2.out]; exact Hel.out _ hlt
          have hown3 := own_weaken hown2 (base' := w.heap.size) hs2
          have hends2 := own_below hends hb4
          have hb5 := below_then hbel hb4
          obtain ⟨E, e5, rfl, _, _⟩ := own_rd hown3
          obtain ⟨F, f5, rfl, _, _⟩ := own_rd hends2
          have hends3 := hends2.alloc (.cells #[.int .i64 (q2 : Int)] 3)
          have hown4 := hown3.alloc (.cells #[.int .i64 (q2 : Int)] 3)
          have hr1x := rd_one w4 (.int .i64 (q2 : Int)) 3
          have hb6 := hb5.alloc hb5.size (.cells #[.int .i64 (q2 : Int)] 3)
          have Hnx := Lib.hid (endCells_next ls k)
          clear hown2 hown3 hends hends2 hb4 hcell hrl2 hrC hl2 hq2 hb5
          go_wp2_with (at_builtin; refine wpList_app rfl _ _ _ rfl 3 (.int .i64 0) 8 Try.underlying37 info_int rfl (by decide) w.heap.size rfl hends3 rfl hr1x (one_one rfl) ?_ ?_ ?_)
          case _ => omega
          case _ => exact hb6.size
          case _ =>
            intro v7 w7 hends4 hg7 _
            rw [Hq2.out, ← Hnx.out] at hends4
            have hb7 := hb6.grown hg7 hb6.size (fun k hk => (own_base hends3 k hk))
            have hown5 := own_move (w' := w7) hown4 (fun j hj => by
              obtain ⟨cur, hcur⟩ := own_blk hown4 hj
              exact hg7.block j (heap_lt hcur) (own_ne_blk hends3 hcur (by decide)))
            clear hends3 hown4 hr1x hb6 hg7
            go_wp2_with fail
            go_roundw
            case rel => exact ⟨k + 1, q2, hlt, by go_num, Hq2, hown5, hends4, hb7⟩
            case measure => simp [intOf]; omega
        · obtain ⟨N, hN⟩ : ∃ N, N = k := ⟨k, rfl⟩
          obtain rfl : k = n := by omega
          have hp := place_calls a (q + 1) wr (by omega) (by omega) ha1 ha2
          rw [show ((q + 1 : Nat) : Int) = (q : Int) + 1 by omega] at hp
          obtain ⟨ct, hct⟩ : ∃ ct : Nat, a % ((q : Int) + 1) = ct := ⟨(a % ((q : Int) + 1)).toNat, by have := Int.emod_nonneg a (b := (q : Int) + 1) (by omega); omega⟩
          have hctq : ct ≤ q := by have := Int.emod_lt_of_pos a (b := (q : Int) + 1) (by omega); omega
          rw [hct] at hp
          have Hp := Lib.hid hp
          clear hp hct hN hown
          obtain ⟨F, f, rfl, hF, hrF⟩ := own_rd hends
          have hsz := hbel.size
          clear hends
          go_wp2_with fail
          refine Hp.out.mono ?_
          rintro e w5 ⟨rfl, rfl⟩
          clear Hp
          go_wp2_with fail
          go_loop [10, 11] (fun i s => ∃ j : Nat, j ≤ k ∧ i = .int .i64 j ∧ s = .int .i64 ((encs ls j).length : Int) ∧ Hid ((encs ls j).length ≤ ct)) (fun i _ => k - (intOf i).toNat)
          case atStart => exact ⟨0, Nat.zero_le _, rfl, rfl, (by simp [encs] : _ ≤ _)⟩
          case round =>
            obtain ⟨j, hj, rfl, rfl, Hj⟩ := hrel
            by_cases hjk : j < k
            · obtain ⟨fd, u, rfl, hu, hcell⟩ := hrF.at_ hjk
              rw [endCells_at hjk] at hu
              injection hu with hu
              subst hu
              have HelJ := Hel.out j hj
              have HelJ1 := Hel.out (j + 1) hjk
              by_cases hle : (encs ls (j + 1)).length ≤ ct
              · have Hj1 := Lib.hid hle
                generalize hE1 : (encs ls (j + 1)).length = E1 at *
                have HE1 := Lib.hid hE1
                clear hE1
                generalize (encs ls j).length = E0 at *
                go_wp2_with fail
                go_round
                case rel => exact ⟨j + 1, hjk, by go_num, by rw [HE1.out], by rw [HE1.out]; exact Hj1.out⟩
                case measure => simp [intOf]; omega
              · have Hstop : Hid (j = k ∨ ct < (encs ls (j + 1)).length) := Lib.hid (.inr (by omega))
                generalize (encs ls (j + 1)).length = E1 at hcell hle HelJ1
                obtain ⟨A', hcut, hA'⟩ := cut_h (P := Try.prog) Try.underlying22 (size_of_info info_u8) C q c3 ct hctq hC3
                have hcr := hA' _ _ hrC
                have Hscan : Hid (scanOf ((encs ls k).take ct) = (ls.take j, (encs ls j).length)) := Lib.hid (by
                  have h := scan_cut (ls := ls) (cut := ct) (n := j) (fun l hl => Nat.le_trans (Hml.out l hl) (by decide)) (by rw [Hl.out]; exact hj) Hj.out (by rw [Hl.out]; exact Hstop.out) (by rw [Hl.out, ← Hq.out]; exact hctq)
                  rw [Hl.out] at h
                  exact h)
                have hgj := Hel.out j hj
                have hctb : ct ≤ 8432 := by omega
                clear hA' hrC hrF Hstop
                go_wp2_with fail
                refine (fscan_calls A' ct c3 ((encs ls k).take ct) _ hcr (by omega) (by omega)).mono ?_
                rw [Hscan.out]
                rintro e w6 ⟨⟨B, n6, c6, G, cs, rfl, hn6, hnc6, hoB, hol⟩, hb6⟩
                obtain rfl : n6 = j := by rw [hn6, List.length_take, Hl.out]; omega
                have hrl := hol.pl.rdl (own_rd' hoB).2
                have hbel6 := below_then hbel hb6
                have hs6 := hbel6.size
                clear hoB hol hn6 hcr hb6 Hscan
                generalize (encs ls n6).length = good at *
                have hn6b : n6 ≤ 30 := by omega
                go_wp2_with fail
                go_loopw [14] (fun t wr => ∃ i : Nat, i ≤ n6 ∧ t = .int .i64 i ∧ Below w6.heap.size w6 wr) (fun t _ => n6 - (intOf t).toNat)
                case atStart => exact ⟨0, Nat.zero_le _, rfl, Below.refl _ _⟩
                case round =>
                  obtain ⟨i, hi, rfl, hb7⟩ := hrel
                  by_cases hin : i < n6
                  · obtain ⟨ad1, l1, B1, c1, rfl, hl1, hc1, _, hrr1⟩ := (hrl.below hb7).at_ hin
                    obtain ⟨ad2, l2, B2, c2, rfl, hl2, hc2, _, hrr2⟩ := (hr0.below (hbel6.trans (hb7.mono hs6))).at_ (show i < k by omega)
                    rw [List.getElem?_take_of_lt hin, hl2] at hl1
                    injection hl1 with hl1
                    subst hl1
                    have hs1 := fun N : Nat => run_str (P := Try.prog) (dst := 9) Try.underlying22 Try.underlying5 Try.underlying9 (hrr1.below (below_drewN (Below.refl _ _) N)) c1
                    have hs2 := fun N : Nat => run_str (P := Try.prog) (dst := 9) Try.underlying22 Try.underlying5 Try.underlying9 (hrr2.below (below_drewN (Below.refl _ _) N)) c2
                    have hink : i < k := by omega
                    clear hrr1 hrr2 hl2
                    generalize txt l2 = S at *
                    go_wp2_with fail
                    go_quiet (fail)
                    go_wp2_with fail
                    go_roundw
                    case rel => exact ⟨i + 1, hin, by go_num, below_drewN hb7 _⟩
                    case measure => simp [intOf]; omega
                  · obtain rfl : i = n6 := by omega
                    have hbel8 := hbel6.trans (hb7.mono hs6)
                    go_wp2_with fail
                    go_ret
                    exact ⟨rfl, hbel8⟩
            · have Hstop : Hid (j = k ∨ ct < (encs ls (j + 1)).length) := Lib.hid (.inl (by omega))
              obtain ⟨A', hcut, hA'⟩ := cut_h (P := Try.prog) Try.underlying22 (size_of_info info_u8) C q c3 ct hctq hC3
              have hcr := hA' _ _ hrC
              have Hscan : Hid (scanOf ((encs ls k).take ct) = (ls.take j, (encs ls j).length)) := Lib.hid (by
                have h := scan_cut (ls := ls) (cut := ct) (n := j) (fun l hl => Nat.le_trans (Hml.out l hl) (by decide)) (by rw [Hl.out]; exact hj) Hj.out (by rw [Hl.out]; exact Hstop.out) (by rw [Hl.out, ← Hq.out]; exact hctq)
                rw [Hl.out] at h
                exact h)
              have hgj := Hel.out j hj
              have hctb : ct ≤ 8432 := by omega
              clear hA' hrC hrF Hstop
              go_wp2_with fail
              refine (fscan_calls A' ct c3 ((encs ls k).take ct) _ hcr (by omega) (by omega)).mono ?_
              rw [Hscan.out]
              rintro e w6 ⟨⟨B, n6, c6, G, cs, rfl, hn6, hnc6, hoB, hol⟩, hb6⟩
              obtain rfl : n6 = j := by rw [hn6, List.length_take, Hl.out]; omega
              have hrl := hol.pl.rdl (own_rd' hoB).2
              have hbel6 := below_then hbel hb6
              have hs6 := hbel6.size
              clear hoB hol hn6 hcr hb6 Hscan
              generalize (encs ls n6).length = good at *
              have hn6b : n6 ≤ 30 := by omega
              go_wp2_with fail
              go_loopw [14] (fun t wr => ∃ i : Nat, i ≤ n6 ∧ t = .int .i64 i ∧ Below w6.heap.size w6 wr) (fun t _ => n6 - (intOf t).toNat)
              case atStart => exact ⟨0, Nat.zero_le _, rfl, Below.refl _ _⟩
              case round =>
                obtain ⟨i, hi, rfl, hb7⟩ := hrel
                by_cases hin : i < n6
                · obtain ⟨ad1, l1, B1, c1, rfl, hl1, hc1, _, hrr1⟩ := (hrl.below hb7).at_ hin
                  obtain ⟨ad2, l2, B2, c2, rfl, hl2, hc2, _, hrr2⟩ := (hr0.below (hbel6.trans (hb7.mono hs6))).at_ (show i < k by omega)
                  rw [List.getElem?_take_of_lt hin, hl2] at hl1
                  injection hl1 with hl1
                  subst hl1
                  have hs1 := fun N : Nat => run_str (P := Try.prog) (dst := 9) Try.underlying22 Try.underlying5 Try.underlying9 (hrr1.below (below_drewN (Below.refl _ _) N)) c1
                  have hs2 := fun N : Nat => run_str (P := Try.prog) (dst := 9) Try.underlying22 Try.underlying5 Try.underlying9 (hrr2.below (below_drewN (Below.refl _ _) N)) c2
                  have hink : i < k := by omega
                  clear hrr1 hrr2 hl2
                  generalize txt l2 = S at *
                  go_wp2_with fail
                  go_quiet (fail)
                  go_wp2_with fail
                  go_roundw
                  case rel => exact ⟨i + 1, hin, by go_num, below_drewN hb7 _⟩
                  case measure => simp [intOf]; omega
                · obtain rfl : i = n6 := by omega
                  have hbel8 := hbel6.trans (hb7.mono hs6)
                  go_wp2_with fail
                  go_ret
                  exact ⟨rfl, hbel8⟩
    · clear hsum
      go_wp2_with fail
      go_ret
      exact ⟨rfl, hb1⟩
  · go_wp2_with fail
    go_ret
    exact ⟨rfl, hb1⟩
end Go.Proofs.Ythidgeeomilhdaa
