/- Contracts of the helpers of package antipodelaw0. -/
import Derived.Test.YtafheojankmniaaRows
import Derived.Test.YtafheojankmniaaBase
import Derived.BigQuiet
import Derived.Test.YtafheojankmniaaOwn
namespace Go.Proofs.Ytafheojankmniaa
open Go.RowKit

theorem flat_len {ls : List (List UInt8)} {k : Nat} {l : List UInt8} (h : ls[k]? = some l) : ((ls.take (k + 1)).flatten).length = ((ls.take k).flatten).length + l.length := by
  rw [List.take_add_one, h]; simp
theorem flat_ub {ls : List (List UInt8)} {k : Nat} {l : List UInt8} (h : ls[k]? = some l) : ub ((ls.take (k + 1)).flatten) = ub ((ls.take k).flatten) ++ ub l := by
  rw [List.take_add_one, h]; simp [ub]
theorem flat_le {ls : List (List UInt8)} {k : Nat} {l : List UInt8} (_h : ls[k]? = some l) : ((ls.take (k + 1)).flatten).length ≤ ls.flatten.length := by
  have e : ls.flatten = (ls.take (k + 1)).flatten ++ (ls.drop (k + 1)).flatten := by rw [← List.flatten_append, List.take_append_drop]
  rw [e, List.length_append]; omega
theorem own_base {w : World} {base : Nat} {e : TypeId} {size n : Nat} {v : Value} {xs : List Value} (h : w.ownsRow base e size v n xs) (k : Nat) (hk : v.ownBlock = some k) : base ≤ k := (h.lt k hk).1


theorem tmod_neg {k : Int} {n : Nat} (hn : 0 < n) (hk : ¬ 0 ≤ k) : k.tmod n = k % n ∧ k % n = 0 ∨ k.tmod n = k % n - n ∧ 0 < k % n := by
  have h := Int.tmod_eq_emod (a := k) (b := (n : Int))
  have h0 := Int.emod_nonneg k (b := (n : Int)) (by omega)
  by_cases hd : (n : Int) ∣ k
  · rw [if_pos (Or.inr hd)] at h
    have := Int.emod_eq_zero_of_dvd hd
    omega
  · rw [if_neg (by intro hh; rcases hh with hh | hh; exact hk hh; exact hd hh)] at h
    have : k % n ≠ 0 := fun he => hd (Int.dvd_of_emod_eq_zero he)
    omega
theorem place_neg {k : Int} {n : Nat} (hn : 0 < n) (hn2 : n ≤ 4611686018427387904) (hk : ¬ 0 ≤ k) (h : k.tmod n < 0) : wrap64 (k.tmod n + n) = k % n := by
  have hl := Int.emod_lt_of_pos k (b := (n : Int)) (by omega)
  rcases tmod_neg hn hk with ⟨e, e2⟩ | ⟨e, e2⟩
  · omega
  · rw [e]; unfold wrap64; omega
theorem place_zero {k : Int} {n : Nat} (hn : 0 < n) (hk : ¬ 0 ≤ k) (h : 0 ≤ k.tmod n) : k.tmod n = k % n := by
  have hl := Int.emod_lt_of_pos k (b := (n : Int)) (by omega)
  rcases tmod_neg hn hk with ⟨e, e2⟩ | ⟨e, e2⟩ <;> omega
set_option maxHeartbeats 400000 in
theorem place_calls (k : Int) (n : Nat) (w : World) (hn : 0 < n) (hn2 : n ≤ 4611686018427387904) (h1 : -9223372036854775808 ≤ k) (h2 : k ≤ 9223372036854775807) :
    Calls Try.prog 15 #[.int .i64 k, .int .i64 (n : Int)] w fun e w' => e = .returned (.int .i64 (k % (n : Int))) ∧ w = w' := by
  have hp := Int.emod_nonneg k (b := (n : Int)) (by omega)
  by_cases hk : 0 ≤ k
  · go_enter Try.func15, Try.ntmps15
    go_wp2_with fail
    go_ret
    exact ⟨rfl, rfl⟩
  · go_enter Try.func15, Try.ntmps15
    go_wp2_with fail
    · go_ret
      exact ⟨by rw [← place_neg hn hn2 (by omega) (by assumption)]; rfl, rfl⟩
    · go_ret
      exact ⟨by rw [← place_zero hn (by omega) (by assumption)]; rfl, rfl⟩

theorem info_u8 : (Try.prog.info? 5).map (fun i => (i.zero, i.size, i.bytes)) = some (some (.int .u8 0), 1, 1) := by kernel_rfl


/-- the cells of a twin, the spare ones filled up to m -/
def twinTo (xs : List UInt8) (m : Nat) : List Value := ub xs ++ (List.replicate (m - xs.length) (.int .u8 229) ++ List.replicate (xs.length + 3 - m) (.int .u8 0))
def twinCells (xs : List UInt8) : List Value := ub xs ++ [.int .u8 229, .int .u8 229, .int .u8 229]
theorem twinTo_length (xs : List UInt8) (m : Nat) (h1 : xs.length ≤ m) (h2 : m ≤ xs.length + 3) : (twinTo xs m).length = xs.length + 3 := by simp [twinTo, ub_length]; omega
theorem twinTo_end (xs : List UInt8) : twinTo xs (xs.length + 3) = twinCells xs := by simp [twinTo, twinCells, List.replicate]
theorem twinTo_at (xs : List UInt8) (m : Nat) (h1 : xs.length ≤ m) (h2 : m < xs.length + 3) : (twinTo xs m)[m]? = some (.int .u8 0) := by
  unfold twinTo
  rw [List.getElem?_append_right (by rw [ub_length]; exact h1), ub_length, List.getElem?_append_right (by simp), List.length_replicate, Nat.sub_self, List.getElem?_replicate, if_pos (by omega)]
theorem twinTo_set (xs : List UInt8) (m : Nat) (h1 : xs.length ≤ m) (h2 : m < xs.length + 3) : (twinTo xs m).set m (.int .u8 229) = twinTo xs (m + 1) := by
  unfold twinTo
  rw [List.set_append_right _ _ (by rw [ub_length]; exact h1), ub_length, List.set_append_right _ _ (by simp), List.length_replicate, Nat.sub_self]
  obtain ⟨q, hq⟩ : ∃ q, xs.length + 3 - m = q + 1 := ⟨xs.length + 3 - m - 1, by omega⟩
  rw [hq, List.replicate_succ, List.set_cons_zero, show m + 1 - xs.length = (m - xs.length) + 1 by omega, show xs.length + 3 - (m + 1) = q by omega]
  congr 1
  rw [List.replicate_succ', List.append_assoc]; rfl
theorem twin_splice (xs : List UInt8) : splice (madeCells #[.int .u8 0] (xs.length + 3)).toList 0 (ub xs) = twinTo xs xs.length := by
  have h : (madeCells #[.int .u8 0] (xs.length + 3)).toList = List.replicate (xs.length + 3) (Value.int .u8 0) := by
    simp [madeCells, Nat.mod_one, List.map_const']
  rw [h]; simp [splice, twinTo, ub_length]

theorem set_row {w : World} {g : Nat} {cs : Array Value} {t : TypeId} {fr : Nat × Nat} (h : w.heap[g]? = some (.cells cs t fr)) (i : Nat) (u : Value) : (w.setCell ⟨g, i, none⟩ u).heap[g]? = some (.cells (cs.setIfInBounds i u) t fr) := by
  simp [World.setCell, Array.getElem?_modify, h]
theorem free_row {w : World} {g : Nat} {cs : Array Value} {t : TypeId} (h : w.heap[g]? = some (.cells cs t (0, 0))) (i : Nat) : w.frozen? ⟨g, i, none⟩ = false := by simp [World.frozen?, h]

set_option maxHeartbeats 400000 in
theorem twin_calls (A : Option Addr) (cap : Nat) (xs : List UInt8) (w : World) (hr : Rd w A xs.length (ub xs)) (hn : xs.length ≤ 1073741824) :
    Calls Try.prog 31 #[.slice A xs.length cap] w fun e w' => (∃ g, e = .returned (.slice (some ⟨g, 0, none⟩) xs.length (xs.length + 3)) ∧ w.heap.size ≤ g ∧ w'.heap[g]? = some (.cells (twinCells xs).toArray 5 (0, 0))) ∧ Below w.heap.size w w' := by
  have hmk := run_make_row' (P := Try.prog) 22 5 (.int .u8 0) 1 Try.underlying22 info_u8 rfl .i64 .i64 (xs.length + 3) (by omega) (by omega)
  have ec : ((xs.length + 3 : Nat) : Int) = (xs.length : Int) + 3 := by omega
  rw [ec] at hmk
  have Hsp := Lib.hid (twin_splice xs)
  have Hec := Lib.hid ec
  clear ec
  go_enter Try.func31, Try.ntmps31
  have hnew := alloc_new w (.cells (madeCells #[.int .u8 0] (xs.length + 3)) 5) _ rfl
  have hbw := (Below.refl w.heap.size w).alloc (Nat.le_refl _) (.cells (madeCells #[.int .u8 0] (xs.length + 3)) 5)
  have hr1 := hr.below hbw
  go_wp2_with (with_reducible refine wpList_copy_splice rfl (.tmp 9) (.tmp 10) 22 22 rfl 5 Try.underlying22 (by kernel_rfl) _ _ _ _ _ _ rfl rfl w.heap.size 0 _ 5 hnew (ub xs) ?_ ?_ ?_ (ub_one _) w.heap.size w hbw (Nat.le_refl _) ?_)
  case refine_1 => rw [ub_length]; simp
  case refine_2 => intro h; obtain ⟨ad, e, hc⟩ := hr1.2 (by rw [ub_length] at h; exact h); exact ⟨ad, e, hc⟩
  case refine_3 => simp [ub_length, size_madeCells]
  case refine_4 =>
    intro w1 Hblk hb1
    rw [Hsp.out] at Hblk
    clear hnew hbw hr1 hr hmk
    go_wp2_with fail
    go_loopw [4] (fun i wr => ∃ m : Nat, xs.length ≤ m ∧ m ≤ xs.length + 3 ∧ i = .int .i64 m ∧ Hid (wr.heap[w.heap.size]? = some (.cells (twinTo xs m).toArray 5 (0, 0))) ∧ Below w.heap.size w wr) (fun i _ => xs.length + 3 - (intOf i).toNat)
    case atStart => exact ⟨xs.length, Nat.le_refl _, by omega, rfl, Hblk, hb1⟩
    case round =>
      obtain ⟨m, hm1, hm2, rfl, Hb, hb⟩ := hrel
      by_cases hlt : m < xs.length + 3
      · have hcell : wr.cell? ⟨w.heap.size, m, none⟩ = some (.int .u8 0) := by rw [cell_row Hb.out]; simpa using twinTo_at xs m hm1 hlt
        have hfree := free_row Hb.out m
        have Hb2 := Lib.hid (set_row Hb.out m (.int .u8 229))
        have Hs := Lib.hid (twinTo_set xs m hm1 hlt)
        have hb2 := hb.setCell (p := ⟨w.heap.size, m, none⟩) (Nat.le_refl _) (.int .u8 229)
        go_wp2_with fail
        go_roundw
        case rel => exact ⟨m + 1, by omega, by omega, by go_num, by have := Hb2.out; simp only [List.setIfInBounds_toArray, Hs.out] at this; exact this, hb2⟩
        case measure => simp [intOf]; omega
      · obtain rfl : m = xs.length + 3 := by omega
        have Hb3 := Hb.out
        rw [twinTo_end] at Hb3
        have Hb4 := Lib.hid Hb3
        clear Hb3 Hb
        go_wp2_with fail
        go_ret
        exact ⟨⟨_, rfl, Nat.le_refl _, Hb4.out⟩, hb⟩

theorem twin_rd {w : World} {g : Nat} {xs : List UInt8} (h : w.heap[g]? = some (.cells (twinCells xs).toArray 5 (0, 0))) : Rd w (some ⟨g, 0, none⟩) xs.length (ub xs) :=
  Rd.of_row (r := [.int .u8 229, .int .u8 229, .int .u8 229]) h (ub_length xs) (by simp [twinCells])

set_option maxHeartbeats 400000 in
theorem kept_calls (g : Nat) (B : Option Addr) (cap : Nat) (xs : List UInt8) (w : World) (hx : w.heap[g]? = some (.cells (twinCells xs).toArray 5 (0, 0))) (hb : Rd w B xs.length (ub xs)) (hn : xs.length ≤ 1073741824) :
    Calls Try.prog 33 #[.slice (some ⟨g, 0, none⟩) xs.length (xs.length + 3), .slice B xs.length cap] w fun e w' => e = .returned (.bool true) ∧ w = w' := by
  have h1 := run_str (P := Try.prog) (dst := 9) Try.underlying22 Try.underlying5 Try.underlying9 (twin_rd hx) (xs.length + 3)
  have h2 := run_str (P := Try.prog) (dst := 9) Try.underlying22 Try.underlying5 Try.underlying9 hb cap
  have hcell : ∀ m, xs.length ≤ m → m < xs.length + 3 → w.cell? ⟨g, m, none⟩ = some (.int .u8 229) := by
    intro m hm1 hm2
    rw [cell_row hx, List.getElem?_toArray, twinCells, List.getElem?_append_right (by rw [ub_length]; exact hm1), ub_length]
    obtain rfl | rfl | rfl : m = xs.length ∨ m = xs.length + 1 ∨ m = xs.length + 2 := by omega
    · simp
    · rw [show xs.length + 1 - xs.length = 1 by omega]; rfl
    · rw [show xs.length + 2 - xs.length = 2 by omega]; rfl
  have Hc := Lib.hid hcell
  have Hx := Lib.hid hx
  clear hcell hx hb
  generalize txt xs = S at *
  go_enter Try.func33, Try.ntmps33
  go_wp2_with fail
  go_loop [6] (fun i => ∃ m : Nat, xs.length ≤ m ∧ m ≤ xs.length + 3 ∧ i = .int .i64 m) (fun i => xs.length + 3 - (intOf i).toNat)
  case atStart => exact ⟨xs.length, Nat.le_refl _, by omega, rfl⟩
  case round =>
    obtain ⟨m, hm1, hm2, rfl⟩ := hrel
    by_cases hlt : m < xs.length + 3
    · have hcell := Hc.out m hm1 hlt
      go_wp2_with fail
      go_round
      case rel => exact ⟨m + 1, by omega, by omega, by go_num⟩
      case measure => simp [intOf]; omega
    · obtain rfl : m = xs.length + 3 := by omega
      go_wp2_with fail
      go_ret
      exact ⟨rfl, rfl⟩



end Go.Proofs.Ytafheojankmniaa
