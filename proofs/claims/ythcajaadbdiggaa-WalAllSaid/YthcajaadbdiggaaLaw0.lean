/- Contracts of the helpers of package antipodelaw0. -/
import Derived.Test.YthcajaadbdiggaaRows
import Derived.Test.YthcajaadbdiggaaBase
import Derived.BigQuiet
import Derived.Test.YthcajaadbdiggaaOwn
namespace Go.Proofs.Ythcajaadbdiggaa
open Go.RowKit

theorem flat_len {ls : List (List UInt8)} {k : Nat} {l : List UInt8} (h : ls[k]? = some l) : ((ls.take (k + 1)).flatten).length = ((ls.take k).flatten).length + l.length := by
  rw [List.take_add_one, h]; simp
theorem flat_ub {ls : List (List UInt8)} {k : Nat} {l : List UInt8} (h : ls[k]? = some l) : ub ((ls.take (k + 1)).flatten) = ub ((ls.take k).flatten) ++ ub l := by
  rw [List.take_add_one, h]; simp [ub]
theorem flat_le {ls : List (List UInt8)} {k : Nat} {l : List UInt8} (_h : ls[k]? = some l) : ((ls.take (k + 1)).flatten).length ≤ ls.flatten.length := by
  have e : ls.flatten = (ls.take (k + 1)).flatten ++ (ls.drop (k + 1)).flatten := by rw [← List.flatten_append, List.take_append_drop]
  rw [e, List.length_append]; omega
theorem own_base {w : World} {base : Nat} {e : TypeId} {size n : Nat} {v : Value} {xs : List Value} (h : w.ownsRow base e size v n xs) (k : Nat) (hk : v.ownBlock = some k) : base ≤ k := (h.lt k hk).1

set_option maxHeartbeats 400000 in
theorem sum0_calls (A : Option Addr) (n cap : Nat) (ls : List (List UInt8)) (most : Nat) (w : World) (hr : RdL w A n ls) (hn : n ≤ 140737488355328) (hm : most ≤ 2147483648) :
    Calls Try.prog 24 #[.slice A n cap, .int .i64 (most : Int)] w fun e w' => (∃ r : Nat, e = .returned (.int .i64 (r : Int)) ∧ (r ≤ most → r = ls.flatten.length)) ∧ w = w' := by
  go_enter Try.func24, Try.ntmps24
  go_wp2_with fail
  go_loop [5, 6] (fun s i => ∃ k : Nat, k ≤ n ∧ i = .int .i64 k ∧ ((ls.take k).flatten).length ≤ 2 * most ∧ s = .int .i64 (((ls.take k).flatten).length : Int)) (fun _ i => n - (intOf i).toNat)
  case atStart => exact ⟨0, Nat.zero_le _, rfl, by simp, by simp⟩
  case round =>
    obtain ⟨k, hk, rfl, hle, rfl⟩ := hrel
    by_cases hlt : k < n
    · obtain ⟨ad, l, B, c, rfl, hl, hcell, _, _⟩ := hr.at_ hlt
      have Hy := Lib.hid (flat_len hl)
      clear hl
      generalize hs : ((ls.take k).flatten).length = s at *
      clear hs
      by_cases hs : s ≤ most
      · by_cases hlm : l.length ≤ most
        · go_wp2_with fail
          go_round
          case rel => exact ⟨k + 1, by omega, by go_num, by rw [Hy.out]; omega, by rw [Hy.out]; go_num⟩
          case measure => simp [intOf]; omega
        · go_wp2_with fail
          go_ret
          exact ⟨⟨most + 1, by simp, by omega⟩, rfl⟩
      · go_wp2_with fail
        go_ret
        exact ⟨⟨s, rfl, by omega⟩, rfl⟩
    · obtain rfl : k = n := by omega
      rw [List.take_of_length_le (by have := hr.len; omega)] at hle ⊢
      go_wp2_with fail
      go_ret
      exact ⟨⟨_, rfl, fun _ => rfl⟩, rfl⟩

theorem tmod_neg {k : Int} {n : Nat} (hn : 0 < n) (hk : ¬ 0 ≤ k) : k.tmod n = k % n ∧ k % n = 0 ∨ k.tmod n = k % n - n ∧ 0 < k % n := by
  have h := Int.tmod_eq_emod (a := k) (b := (n : Int))
  have h0 := Int.emod_nonneg k (b := (n : Int)) (by omega)
  by_cases hd : (n : Int) ∣ k
  · rw [if_pos (Or.inr hd)] at h
    have := Int.emod_eq_zero_of_dvd hd
    omega
  · rw [if_neg (by intro hh; rcases hh with hh | hh; exact hk hh; exact hd hh)] at h
    have : k % n ≠ 0 := fun he => hd (Int.dvd_of_emod_eq_zero he)
    omega
theorem place_neg {k : Int} {n : Nat} (hn : 0 < n) (hn2 : n ≤ 4611686018427387904) (hk : ¬ 0 ≤ k) (h : k.tmod n < 0) : wrap64 (k.tmod n + n) = k % n := by
  have hl := Int.emod_lt_of_pos k (b := (n : Int)) (by omega)
  rcases tmod_neg hn hk with ⟨e, e2⟩ | ⟨e, e2⟩
  · omega
  · rw [e]; unfold wrap64; omega
theorem place_zero {k : Int} {n : Nat} (hn : 0 < n) (hk : ¬ 0 ≤ k) (h : 0 ≤ k.tmod n) : k.tmod n = k % n := by
  have hl := Int.emod_lt_of_pos k (b := (n : Int)) (by omega)
  rcases tmod_neg hn hk with ⟨e, e2⟩ | ⟨e, e2⟩ <;> omega
set_option maxHeartbeats 400000 in
theorem place_calls (k : Int) (n : Nat) (w : World) (hn : 0 < n) (hn2 : n ≤ 4611686018427387904) (h1 : -9223372036854775808 ≤ k) (h2 : k ≤ 9223372036854775807) :
    Calls Try.prog 31 #[.int .i64 k, .int .i64 (n : Int)] w fun e w' => e = .returned (.int .i64 (k % (n : Int))) ∧ w = w' := by
  have hp := Int.emod_nonneg k (b := (n : Int)) (by omega)
  by_cases hk : 0 ≤ k
  · go_enter Try.func31, Try.ntmps31
    go_wp2_with fail
    go_ret
    exact ⟨rfl, rfl⟩
  · go_enter Try.func31, Try.ntmps31
    go_wp2_with fail
    · go_ret
      exact ⟨by rw [← place_neg hn hn2 (by omega) (by assumption)]; rfl, rfl⟩
    · go_ret
      exact ⟨by rw [← place_zero hn (by omega) (by assumption)]; rfl, rfl⟩

theorem info_u8 : (Try.prog.info? 5).map (fun i => (i.zero, i.size, i.bytes)) = some (some (.int .u8 0), 1, 1) := by kernel_rfl


/-- the cells of a twin, the spare ones filled up to m -/
def twinTo (xs : List UInt8) (m : Nat) : List Value := ub xs ++ (List.replicate (m - xs.length) (.int .u8 229) ++ List.replicate (xs.length + 3 - m) (.int .u8 0))
def twinCells (xs : List UInt8) : List Value := ub xs ++ [.int .u8 229, .int .u8 229, .int .u8 229]
theorem twinTo_length (xs : List UInt8) (m : Nat) (h1 : xs.length ≤ m) (h2 : m ≤ xs.length + 3) : (twinTo xs m).length = xs.length + 3 := by simp [twinTo, ub_length]; omega
theorem twinTo_end (xs : List UInt8) : twinTo xs (xs.length + 3) = twinCells xs := by simp [twinTo, twinCells, List.replicate]
theorem twinTo_at (xs : List UInt8) (m : Nat) (h1 : xs.length ≤ m) (h2 : m < xs.length + 3) : (twinTo xs m)[m]? = some (.int .u8 0) := by
  unfold twinTo
  rw [List.getElem?_append_right (by rw [ub_length]; exact h1), ub_length, List.getElem?_append_right (by simp), List.length_replicate, Nat.sub_self, List.getElem?_replicate, if_pos (by omega)]
theorem twinTo_set (xs : List UInt8) (m : Nat) (h1 : xs.length ≤ m) (h2 : m < xs.length + 3) : (twinTo xs m).set m (.int .u8 229) = twinTo xs (m + 1) := by
  unfold twinTo
  rw [List.set_append_right _ _ (by rw [ub_length]; exact h1), ub_length, List.set_append_right _ _ (by simp), List.length_replicate, Nat.sub_self]
  obtain ⟨q, hq⟩ : ∃ q, xs.length + 3 - m = q + 1 := ⟨xs.length + 3 - m - 1, by omega⟩
  rw [hq, List.replicate_succ, List.set_cons_zero, show m + 1 - xs.length = (m - xs.length) + 1 by omega, show xs.length + 3 - (m + 1) = q by omega]
  congr 1
  rw [List.replicate_succ', List.append_assoc]; rfl
theorem twin_splice (xs : List UInt8) : splice (madeCells #[.int .u8 0] (xs.length + 3)).toList 0 (ub xs) = twinTo xs xs.length := by
  have h : (madeCells #[.int .u8 0] (xs.length + 3)).toList = List.replicate (xs.length + 3) (Value.int .u8 0) := by
    simp [madeCells, Nat.mod_one, List.map_const']
  rw [h]; simp [splice, twinTo, ub_length]

theorem set_row {w : World} {g : Nat} {cs : Array Value} {t : TypeId} {fr : Nat × Nat} (h : w.heap[g]? = some (.cells cs t fr)) (i : Nat) (u : Value) : (w.setCell ⟨g, i, none⟩ u).heap[g]? = some (.cells (cs.setIfInBounds i u) t fr) := by
  simp [World.setCell, Array.getElem?_modify, h]
theorem free_row {w : World} {g : Nat} {cs : Array Value} {t : TypeId} (h : w.heap[g]? = some (.cells cs t (0, 0))) (i : Nat) : w.frozen? ⟨g, i, none⟩ = false := by simp [World.frozen?, h]

set_option maxHeartbeats 400000 in
theorem twin_calls (A : Option Addr) (cap : Nat) (xs : List UInt8) (w : World) (hr : Rd w A xs.length (ub xs)) (hn : xs.length ≤ 1073741824) :
    Calls Try.prog 37 #[.slice A xs.length cap] w fun e w' => (∃ g, e = .returned (.slice (some ⟨g, 0, none⟩) xs.length (xs.length + 3)) ∧ w.heap.size ≤ g ∧ w'.heap[g]? = some (.cells (twinCells xs).toArray 5 (0, 0))) ∧ Below w.heap.size w w' := by
  have hmk := run_make_row' (P := Try.prog) 35 5 (.int .u8 0) 1 Try.underlying35 info_u8 rfl .i64 .i64 (xs.length + 3) (by omega) (by omega)
  have ec : ((xs.length + 3 : Nat) : Int) = (xs.length : Int) + 3 := by omega
  rw [ec] at hmk
  have Hsp := Lib.hid (twin_splice xs)
  have Hec := Lib.hid ec
  clear ec
  go_enter Try.func37, Try.ntmps37
  have hnew := alloc_new w (.cells (madeCells #[.int .u8 0] (xs.length + 3)) 5) _ rfl
  have hbw := (Below.refl w.heap.size w).alloc (Nat.le_refl _) (.cells (madeCells #[.int .u8 0] (xs.length + 3)) 5)
  have hr1 := hr.below hbw
  go_wp2_with (with_reducible refine wpList_copy_splice rfl (.tmp 9) (.tmp 10) 35 35 rfl 5 Try.underlying35 (by kernel_rfl) _ _ _ _ _ _ rfl rfl w.heap.size 0 _ 5 hnew (ub xs) ?_ ?_ ?_ (ub_one _) w.heap.size w hbw (Nat.le_refl _) ?_)
  case refine_1 => rw [ub_length]; simp
  case refine_2 => intro h; obtain ⟨ad, e, hc⟩ := hr1.2 (by rw [ub_length] at h; exact h); exact ⟨ad, e, hc⟩
  case refine_3 => simp [ub_length, size_madeCells]
  case refine_4 =>
    intro w1 Hblk hb1
    rw [Hsp.out] at Hblk
    clear hnew hbw hr1 hr hmk
    go_wp2_with fail
    go_loopw [4] (fun i wr => ∃ m : Nat, xs.length ≤ m ∧ m ≤ xs.length + 3 ∧ i = .int .i64 m ∧ Hid (wr.heap[w.heap.size]? = some (.cells (twinTo xs m).toArray 5 (0, 0))) ∧ Below w.heap.size w wr) (fun i _ => xs.length + 3 - (intOf i).toNat)
    case atStart => exact ⟨xs.length, Nat.le_refl _, by omega, rfl, Hblk, hb1⟩
    case round =>
      obtain ⟨m, hm1, hm2, rfl, Hb, hb⟩ := hrel
      by_cases hlt : m < xs.length + 3
      · have hcell : wr.cell? ⟨w.heap.size, m, none⟩ = some (.int .u8 0) := by rw [cell_row Hb.out]; simpa using twinTo_at xs m hm1 hlt
        have hfree := free_row Hb.out m
        have Hb2 := Lib.hid (set_row Hb.out m (.int .u8 229))
        have Hs := Lib.hid (twinTo_set xs m hm1 hlt)
        have hb2 := hb.setCell (p := ⟨w.heap.size, m, none⟩) (Nat.le_refl _) (.int .u8 229)
        go_wp2_with fail
        go_roundw
        case rel => exact ⟨m + 1, by omega, by omega, by go_num, by have := Hb2.out; simp only [List.setIfInBounds_toArray, Hs.out] at this; exact this, hb2⟩
        case measure => simp [intOf]; omega
      · obtain rfl : m = xs.length + 3 := by omega
        have Hb3 := Hb.out
        rw [twinTo_end] at Hb3
        have Hb4 := Lib.hid Hb3
        clear Hb3 Hb
        go_wp2_with fail
        go_ret
        exact ⟨⟨_, rfl, Nat.le_refl _, Hb4.out⟩, hb⟩

theorem twin_rd {w : World} {g : Nat} {xs : List UInt8} (h : w.heap[g]? = some (.cells (twinCells xs).toArray 5 (0, 0))) : Rd w (some ⟨g, 0, none⟩) xs.length (ub xs) :=
  Rd.of_row (r := [.int .u8 229, .int .u8 229, .int .u8 229]) h (ub_length xs) (by simp [twinCells])

set_option maxRecDepth 10000 in
set_option maxHeartbeats 400000 in
theorem kept_calls (g : Nat) (B : Option Addr) (cap : Nat) (xs : List UInt8) (w : World) (hx : w.heap[g]? = some (.cells (twinCells xs).toArray 5 (0, 0))) (hb : Rd w B xs.length (ub xs)) (hn : xs.length ≤ 1073741824) :
    Calls Try.prog 39 #[.slice (some ⟨g, 0, none⟩) xs.length (xs.length + 3), .slice B xs.length cap] w fun e w' => e = .returned (.bool true) ∧ w = w' := by
  have h1 := run_str (P := Try.prog) (dst := 9) Try.underlying35 Try.underlying5 Try.underlying9 (twin_rd hx) (xs.length + 3)
  have h2 := run_str (P := Try.prog) (dst := 9) Try.underlying35 Try.underlying5 Try.underlying9 hb cap
  have hcell : ∀ m, xs.length ≤ m → m < xs.length + 3 → w.cell? ⟨g, m, none⟩ = some (.int .u8 229) := by
    intro m hm1 hm2
    rw [cell_row hx, List.getElem?_toArray, twinCells, List.getElem?_append_right (by rw [ub_length]; exact hm1), ub_length]
    obtain rfl | rfl | rfl : m = xs.length ∨ m = xs.length + 1 ∨ m = xs.length + 2 := by omega
    · simp
    · rw [show xs.length + 1 - xs.length = 1 by omega]; rfl
    · rw [show xs.length + 2 - xs.length = 2 by omega]; rfl
  have Hc := Lib.hid hcell
  have Hx := Lib.hid hx
  clear hcell hx hb
  generalize txt xs = S at *
  go_enter Try.func39, Try.ntmps39
  go_wp2_with fail
  go_loop [6] (fun i => ∃ m : Nat, xs.length ≤ m ∧ m ≤ xs.length + 3 ∧ i = .int .i64 m) (fun i => xs.length + 3 - (intOf i).toNat)
  case atStart => exact ⟨xs.length, Nat.le_refl _, by omega, rfl⟩
  case round =>
    obtain ⟨m, hm1, hm2, rfl⟩ := hrel
    by_cases hlt : m < xs.length + 3
    · have hcell := Hc.out m hm1 hlt
      go_wp2_with fail
      go_round
      case rel => exact ⟨m + 1, by omega, by omega, by go_num⟩
      case measure => simp [intOf]; omega
    · obtain rfl : m = xs.length + 3 := by omega
      go_wp2_with fail
      go_ret
      exact ⟨rfl, rfl⟩

/-- twins of a list, each in a row of its own -/
def TwL (w : World) (base : Nat) (cs : List Value) (ls : List (List UInt8)) : Prop :=
  cs.length = ls.length ∧ ∀ (j : Nat) (l : List UInt8), ls[j]? = some l → ∃ g : Nat, cs[j]? = some (.slice (some ⟨g, 0, none⟩) l.length (l.length + 3)) ∧ base ≤ g ∧ w.heap[g]? = some (.cells (twinCells l).toArray 5 (0, 0))
theorem TwL.nil_ (w : World) (base : Nat) : TwL w base [] [] := ⟨rfl, fun j l h => by simp at h⟩
theorem TwL.move {w w' : World} {base : Nat} {cs : List Value} {ls : List (List UInt8)} (h : TwL w base cs ls)
    (hm : ∀ (g : Nat) (c : Array Value), base ≤ g → w.heap[g]? = some (.cells c 5 (0, 0)) → w'.heap[g]? = some (.cells c 5 (0, 0))) : TwL w' base cs ls :=
  ⟨h.1, fun j l hl => by obtain ⟨g, h1, h2, h3⟩ := h.2 j l hl; exact ⟨g, h1, h2, hm g _ h2 h3⟩⟩
theorem TwL.below {w w' : World} {base : Nat} {cs : List Value} {ls : List (List UInt8)} (h : TwL w base cs ls) (hb : Below w.heap.size w w') : TwL w' base cs ls :=
  h.move fun g _ _ hg => (hb.block g (heap_lt hg)).trans hg
theorem TwL.snoc {w : World} {base g : Nat} {cs : List Value} {ls : List (List UInt8)} {l : List UInt8} (h : TwL w base cs ls) (hg : base ≤ g) (hw : w.heap[g]? = some (.cells (twinCells l).toArray 5 (0, 0))) :
    TwL w base (cs ++ [Value.slice (some ⟨g, 0, none⟩) l.length (l.length + 3)]) (ls ++ [l]) := by
  refine ⟨by simp [h.1], fun j l' hl => ?_⟩
  rcases Nat.lt_or_ge j ls.length with hj | hj
  · rw [List.getElem?_append_left hj] at hl
    obtain ⟨g', h1, h2, h3⟩ := h.2 j l' hl
    exact ⟨g', by rw [List.getElem?_append_left (by rw [h.1]; exact hj)]; exact h1, h2, h3⟩
  · rw [List.getElem?_append_right hj] at hl
    have e0 : j - ls.length = 0 := by
      rcases Nat.eq_zero_or_pos (j - ls.length) with h0 | h0
      · exact h0
      · rw [List.getElem?_eq_none (by simp; omega)] at hl; cases hl
    rw [e0] at hl
    injection hl with hl
    subst hl
    exact ⟨g, by rw [List.getElem?_append_right (by rw [h.1]; exact hj), h.1, e0]; rfl, hg, hw⟩
theorem TwL.rdl {w : World} {base : Nat} {A : Option Addr} {n : Nat} {cs : List Value} {ls : List (List UInt8)} (h : TwL w base cs ls) (hr : Rd w A n cs) : RdL w A n ls := by
  refine ⟨h.1.symm.trans hr.1, fun hn => ?_⟩
  obtain ⟨ad, e, hc⟩ := hr.2 hn
  refine ⟨ad, e, fun j l hl => ?_⟩
  obtain ⟨g, h1, h2, h3⟩ := h.2 j l hl
  exact ⟨_, _, hc j _ h1, by omega, twin_rd h3⟩
theorem take_snoc' {ls : List (List UInt8)} {k : Nat} {l : List UInt8} (h : ls[k]? = some l) : ls.take (k + 1) = ls.take k ++ [l] := by
  rw [List.take_add_one, h]; rfl
theorem info_sl : (Try.prog.info? 35).map (fun i => (i.zero, i.size, i.bytes)) = some (some (.slice none 0 0), 1, 24) := by kernel_rfl

set_option maxHeartbeats 400000 in
theorem twins_calls (A : Option Addr) (n cap : Nat) (ls : List (List UInt8)) (w : World) (hr : RdL w A n ls) (hn : n ≤ 1073741824) (hm : ∀ l ∈ ls, l.length ≤ 1073741824) :
    Calls Try.prog 42 #[.slice A n cap] w fun e w' => (∃ B c cs, e = .returned (.slice B n c) ∧ n ≤ c ∧ Rd w' B n cs ∧ TwL w' w.heap.size cs ls) ∧ Below w.heap.size w w' := by
  go_enter Try.func42, Try.ntmps42
  go_wp2_with fail
  go_loopw [3, 4] (fun s i wr => ∃ (k : Nat) (cs : List Value), k ≤ n ∧ i = .int .i64 k ∧ wr.ownsRow w.heap.size 35 1 s k cs ∧ TwL wr w.heap.size cs (ls.take k) ∧ Below w.heap.size w wr) (fun _ i _ => n - (intOf i).toNat)
  case atStart => exact ⟨0, [], Nat.zero_le _, rfl, World.ownsRow_nil _ _ _ _, TwL.nil_ _ _, Below.refl _ _⟩
  case round =>
    obtain ⟨k, cs, hk, rfl, hown, htw, hbel⟩ := hrel
    by_cases hlt : k < n
    · obtain ⟨ad, l, B, c, rfl, hl, hcell, _, hrl⟩ := (hr.below hbel).at_ hlt
      have hml := hm l (List.mem_of_getElem? hl)
      have Hs := Lib.hid (take_snoc' hl)
      clear hl
      go_wp2_with fail
      refine (twin_calls _ _ l _ hrl hml).mono ?_
      rintro e w1 ⟨⟨g, rfl, hg, hblk⟩, hb1⟩
      have hown1 := own_below hown hb1
      have hown2 := hown1.alloc (.cells #[.slice (some ⟨g, 0, none⟩) l.length (l.length + 3)] 35)
      have hr1 := rd_one w1 (.slice (some ⟨g, 0, none⟩) l.length (l.length + 3)) 35
      have hbel1 := below_then hbel hb1
      have hbel2 := hbel1.alloc hbel1.size (.cells #[.slice (some ⟨g, 0, none⟩) l.length (l.length + 3)] 35)
      have hsz := hbel1.size
      have htw1 := (htw.below hb1).snoc (Nat.le_trans hbel.size hg) hblk
      rw [← Hs.out] at htw1
      clear hown hown1 hrl hcell hblk hb1 htw
      go_wp2_with (at_builtin; refine wpList_app rfl _ _ _ rfl 35 (.slice none 0 0) 24 Try.underlying36 info_sl rfl (by decide) w.heap.size rfl hown2 rfl hr1 (one_one rfl) ?_ ?_ ?_)
      case _ => omega
      case _ => simp; omega
      case _ =>
        intro v' w2 hown3 hg2 _
        have hb3 := hbel2.grown hg2 hbel2.size (fun k hk => (own_base hown2 k hk))
        have htw2 := htw1.move (w' := w2) (fun g c _ hgc => (hg2.block g (heap_lt (alloc_old hgc)) (own_ne_blk hown2 (alloc_old hgc) (by decide))).trans (alloc_old hgc))
        clear hown2 htw1 hg2 hr1
        go_wp2
        go_roundw
        case rel => exact ⟨k + 1, _, by omega, by go_num, hown3, htw2, hb3⟩
        case measure => simp [intOf]; omega
    · obtain rfl : k = n := by omega
      rw [List.take_of_length_le (by have := hr.len; omega)] at htw
      obtain ⟨B, c, rfl, hc, hb⟩ := own_rd hown
      go_wp2_with fail
      go_ret
      exact ⟨⟨B, c, cs, rfl, hc, hb, htw⟩, hbel⟩

theorem TwL.at_ {w : World} {base : Nat} {A : Option Addr} {n : Nat} {cs : List Value} {ls : List (List UInt8)} (h : TwL w base cs ls) (hr : Rd w A n cs) {k : Nat} (hk : k < n) :
    ∃ ad l g, A = some ad ∧ ls[k]? = some l ∧ w.cell? (ad.add k) = some (.slice (some ⟨g, 0, none⟩) l.length (l.length + 3)) ∧ w.heap[g]? = some (.cells (twinCells l).toArray 5 (0, 0)) := by
  obtain ⟨ad, e, hc⟩ := hr.2 (by omega)
  have hl : k < ls.length := by have := hr.1; have := h.1; omega
  obtain ⟨g, h1, _, h3⟩ := h.2 k _ (List.getElem?_eq_getElem hl)
  exact ⟨ad, _, g, e, List.getElem?_eq_getElem hl, hc k _ h1, h3⟩

set_option maxHeartbeats 1000000 in
theorem allkept_calls (A B : Option Addr) (n c1 c2 base : Nat) (cs : List Value) (ls : List (List UInt8)) (w : World) (hx : Rd w A n cs) (ht : TwL w base cs ls) (hr : RdL w B n ls) (hn : n ≤ 1073741824) (hm : ∀ l ∈ ls, l.length ≤ 1073741824) :
    Calls Try.prog 44 #[.slice A n c1, .slice B n c2] w fun e w' => e = .returned (.bool true) ∧ ∃ m, w' = w.drewN m := by
  go_enter Try.func44, Try.ntmps44
  go_wp2_with fail
  go_loopw [5] (fun i wr => ∃ k : Nat, k ≤ n ∧ i = .int .i64 k ∧ ∃ m, wr = w.drewN m) (fun i _ => n - (intOf i).toNat)
  case atStart => exact ⟨0, Nat.zero_le _, rfl, 0, rfl⟩
  case round =>
    obtain ⟨k, hk, rfl, m, rfl⟩ := hrel
    by_cases hlt : k < n
    · obtain ⟨ad, l, g, rfl, hl, hcell, hblk⟩ := ht.at_ hx hlt
      obtain ⟨ad2, l2, B2, c, rfl, hl2, hcell2, _, hrl⟩ := hr.at_ hlt
      obtain rfl : l2 = l := by rw [hl] at hl2; injection hl2 with h; exact h.symm
      have hml := hm l2 (List.mem_of_getElem? hl)
      have hk0 : (0 : Int) ≤ k := by omega
      have hk1 : (k : Int) < n := by omega
      clear hl hl2
      go_wp2_with fail
      go_quiet ((go_at_call 39; exact quiet_add_left (kept_calls g _ _ l2 _ hblk hrl hml)))
      go_wp2_with fail
      go_roundw
      case rel => exact ⟨k + 1, by omega, by go_num, _, rfl⟩
      case measure => simp [intOf]; omega
    · obtain rfl : k = n := by omega
      go_wp2_with fail
      go_ret
      exact ⟨rfl, _, rfl⟩

end Go.Proofs.Ythcajaadbdiggaa
