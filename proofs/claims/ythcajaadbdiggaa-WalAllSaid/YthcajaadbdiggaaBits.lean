/- Contracts of bits.Put, bits.Get and what they call. -/
import Derived.Test.YthcajaadbdiggaaRows
import Derived.Test.YthcajaadbdiggaaBase
import Derived.Test.YthcajaadbdiggaaOwn
import Derived.Test.YthcajaadbdiggaaLaw0
import Derived.Shelf.Strconv.Itoa0
namespace Go.Proofs.Ythcajaadbdiggaa
open Go.RowKit Go.Shelf

/-- the shelf's contract of bits.Len64, laid at this dump in plain words -/
def lenRen : Go.Shelf.Ren := ⟨fun | 129 => 73 | n => n, fun | 53 => 41 | 3 => 3 | 4 => 4 | 46 => 115 | 5 => 5 | 9 => 9 | n => n, fun | n => n⟩
theorem lenLays : Go.Proofs.Lays.n129 Try.prog lenRen := {
  mixed := by kernel_rfl
  f129 := Try.func73.trans (congrArg some (by kernel_rfl))
  t3 := Try.underlying3
  a3 := Try.isAgg3
  z3 := Try.sizeOf3
  v3 := Try.zeroValue3
  t4 := Try.underlying4
  a4 := Try.isAgg4
  z4 := Try.sizeOf4
  v4 := Try.zeroValue4
  t5 := Try.underlying5
  a5 := Try.isAgg5
  z5 := Try.sizeOf5
  v5 := Try.zeroValue5
  t9 := Try.underlying9
  a9 := Try.isAgg9
  z9 := Try.sizeOf9
  v9 := Try.zeroValue9
  t46 := Try.underlying115
  a46 := Try.isAgg115
  z46 := Try.sizeOf115
  v46 := Try.zeroValue115
  t53 := Try.underlying41
  a53 := Try.isAgg41
  z53 := Try.sizeOf41
  v53 := Try.zeroValue41 }

theorem bitLenAux_le : ∀ (f x k : Nat), x < 2 ^ k → Lib.bitLenAux f x ≤ k
  | 0, _, _, _ => Nat.zero_le _
  | f + 1, x, 0, h => by
    have : x = 0 := by simpa using h
    simp [Lib.bitLenAux, this]
  | f + 1, x, k + 1, h => by
    unfold Lib.bitLenAux
    split
    · exact Nat.zero_le _
    · have := bitLenAux_le f (x / 2) k (by rw [Nat.pow_succ] at h; omega)
      omega

theorem len64_calls (v : Nat) (k : Nat) (hv : v < 18446744073709551616) (hk : v < 2 ^ k) (w : World) :
    Calls Try.prog 73 #[.int .u64 (v : Int)] w fun e w' => (∃ r : Nat, e = .returned (.int .i64 (r : Int)) ∧ r ≤ k) ∧ w = w' := by
  refine (Any.bits_Len64 lenLays (v : Int) w (by omega) (by omega)).mono ?_
  rintro e w' ⟨rfl, rfl⟩
  exact ⟨⟨_, rfl, bitLenAux_le _ _ _ (by simpa using hk)⟩, rfl⟩

/-- big-endian: n bytes of v -/
def be : Nat → Nat → List UInt8
  | 0, _ => []
  | n + 1, v => UInt8.ofNat (v / 256 ^ n) :: be n v
theorem be_length : ∀ n v, (be n v).length = n
  | 0, _ => rfl
  | n + 1, v => by simp [be, be_length n v]

set_option maxHeartbeats 400000 in
theorem room_calls (A : Option Addr) (n cap : Nat) (xs : List UInt8) (k : Nat) (w : World) (hr : Rd w A n (ub xs)) (hn : n ≤ 1073741824) (hk : k ≤ 1073741824) :
    Calls Try.prog 74 #[.slice A n cap, .int .i64 (k : Int)] w fun e w' => (∃ v, e = .returned v ∧ w'.ownsRow w.heap.size 5 1 v n (ub xs)) ∧ Below w.heap.size w w' := by
  have hmk := run_make_nc (P := Try.prog) 35 5 (.int .u8 0) 1 Try.underlying35 info_u8 0 (n + k) 0 ((n : Int) + k) (by omega) (by omega) (by omega) (by omega) (by omega)
  go_enter Try.func74, Try.ntmps74
  have hb1 := (Below.refl w.heap.size w).alloc (Nat.le_refl _) (.cells (madeCells #[.int .u8 0] (n + k)) 5)
  have hr1 := hr.below hb1
  have hown := own_made w (Nat.le_refl w.heap.size) 5 #[.int .u8 0] (n + k) (by unfold maxLen; omega)
  go_wp2_with (at_builtin; refine wpList_app rfl _ _ _ rfl 5 (.int .u8 0) 1 Try.underlying35 info_u8 rfl (by decide) w.heap.size rfl hown rfl hr1 (ub_one _) ?_ hb1.size ?_)
  case _ => omega
  case _ =>
    intro v' w2 hown2 hg2 _
    have hb2 := hb1.grown hg2 hb1.size (fun k hk => (own_base hown k hk))
    obtain ⟨B, c, rfl, _, _⟩ := own_rd hown2
    clear hown hr1 hg2 hb1
    go_wp2_with fail
    go_ret
    exact ⟨⟨_, rfl, by simpa using hown2⟩, hb2⟩

theorem be_get : ∀ (n v i : Nat), i < n → (be n v)[i]? = some (UInt8.ofNat (v / 256 ^ (n - 1 - i)))
  | 0, _, _, h => by omega
  | n + 1, v, 0, _ => by simp [be]
  | n + 1, v, i + 1, h => by
    simp only [be, List.getElem?_cons_succ]
    rw [be_get n v i (by omega), show n + 1 - 1 - (i + 1) = n - 1 - i by omega]
theorem be_snoc {n v j : Nat} (hj : j + 1 ≤ n) : (be n v).take (n - j) = (be n v).take (n - (j + 1)) ++ [UInt8.ofNat (v / 256 ^ j)] := by
  obtain ⟨i, hi⟩ : ∃ i, n - (j + 1) = i := ⟨_, rfl⟩
  rw [hi, show n - j = i + 1 by omega, List.take_add_one, be_get n v i (by omega), show n - 1 - i = j by omega]
  rfl

theorem byte_of {v q S : Nat} (hS : 8 * q = S) : [Value.int .u8 ((v : Int) / 2 ^ S % 256)] = ub [UInt8.ofNat (v / 256 ^ q)] := by
  subst hS
  have e1 : ((v : Int) / 2 ^ (8 * q)) = ((v / 2 ^ (8 * q) : Nat) : Int) := by simp
  have e2 : (256 : Nat) ^ q = 2 ^ (8 * q) := by rw [show (256 : Nat) = 2 ^ 8 from rfl, ← Nat.pow_mul]
  rw [e1, e2]
  simp [ub]

set_option maxHeartbeats 1000000 in
theorem put_calls (A : Option Addr) (m cap : Nat) (xs : List UInt8) (v n : Nat) (w : World) (hr : Rd w A m (ub xs)) (hm : m ≤ 536870912) (hn1 : 1 ≤ n) (hn8 : n ≤ 8) (hv : v < 2 ^ (8 * n)) (hv2 : v < 18446744073709551616) :
    Calls Try.prog 57 #[.slice A m cap, .int .u64 (v : Int), .int .i64 (n : Int)] w fun e w' => (∃ u, e = .returned (.tuple #[u, .int .i64 0]) ∧ w'.ownsRow w.heap.size 5 1 u (m + n) (ub (xs ++ be n v))) ∧ Below w.heap.size w w' := by
  go_enter Try.func57, Try.ntmps57
  go_wp2_with fail
  refine (len64_calls v (8 * n) hv2 hv _).mono ?_
  rintro e w1 ⟨⟨r, rfl, hrn⟩, rfl⟩
  go_wp2_with fail
  refine (room_calls A m cap xs n _ hr (by omega) (by omega)).mono ?_
  rintro e w1 ⟨⟨u, rfl, hown⟩, hb1⟩
  obtain ⟨C, c, rfl, _, _⟩ := own_rd hown
  clear hr
  go_wp2_with fail
  go_loopw [8, 9] (fun s i wr => ∃ j : Nat, j ≤ n ∧ i = .int .i64 (8 * (j : Int) - 8) ∧ wr.ownsRow w.heap.size 5 1 s (m + (n - j)) (ub (xs ++ (be n v).take (n - j))) ∧ Below w.heap.size w wr) (fun _ i _ => (intOf i + 8).toNat)
  case atStart => exact ⟨n, Nat.le_refl _, by congr 1; omega, by simpa using hown, hb1⟩
  case round =>
    obtain ⟨j, hj, rfl, hown2, hb2⟩ := hrel
    clear hown hb1
    by_cases hj0 : j = 0
    · subst hj0
      obtain ⟨D, d, rfl, _, _⟩ := own_rd hown2
      go_wp2_with fail
      go_ret2
      exact ⟨⟨_, rfl, by simpa [List.take_of_length_le, be_length] using hown2⟩, hb2⟩
    · obtain ⟨q, rfl⟩ : ∃ q, j = q + 1 := ⟨j - 1, by omega⟩
      have hq : (8 * ((q + 1 : Nat) : Int) - 8) = ((8 * q : Nat) : Int) := by omega
      rw [hq]
      have hq2 : 8 * q ≤ 56 := by omega
      obtain ⟨S, hS⟩ : ∃ S, 8 * q = S := ⟨_, rfl⟩
      rw [hS] at hq2 ⊢
      have Hbyte := Lib.hid (byte_of (v := v) hS)
      have Hsn := Lib.hid (be_snoc (v := v) hj)
      have hq3 : (8 * (q : Int) - 8) = (S : Int) - 8 := by omega
      have Hq3 := Lib.hid hq3
      clear hq hS hq3
      have hown3 := hown2.alloc (.cells #[.int .u8 ((v : Int) / 2 ^ S % 256)] 5)
      have hr1 := rd_one wr (.int .u8 ((v : Int) / 2 ^ S % 256)) 5
      have hb3 := hb2.alloc hb2.size (.cells #[.int .u8 ((v : Int) / 2 ^ S % 256)] 5)
      have hsz := hb2.size
      clear hown2
      go_wp2_with (at_builtin; refine wpList_app rfl _ _ _ rfl 5 (.int .u8 0) 1 Try.underlying35 info_u8 rfl (by decide) w.heap.size rfl hown3 rfl hr1 (one_one rfl) ?_ ?_ ?_)
      case _ => omega
      case _ => simp; omega
      case _ =>
        intro v' w2 hown4 hg2 _
        have hb4 := hb3.grown hg2 hb3.size (fun k hk => (own_base hown3 k hk))
        have e1 : m + (n - (q + 1)) + 1 = m + (n - q) := by omega
        have hown5 : w2.ownsRow w.heap.size 5 1 v' (m + (n - q)) (ub (xs ++ (be n v).take (n - q))) := by
          rw [Hsn.out, ← List.append_assoc, ub_append, ← Hbyte.out, ← e1]; exact hown4
        clear hown3 hown4 hg2 hr1 hb3 hb2 e1
        go_wp2_with fail
        go_roundw
        case rel => exact ⟨q, by omega, by rw [Hq3.out], hown5, hb4⟩
        case measure => simp [intOf]; omega

/-- the number that bytes tell -/
def rdbe (l : List UInt8) : Nat := l.foldl (fun v x => v * 256 + x.toNat) 0
theorem rdbe_snoc (l : List UInt8) (x : UInt8) : rdbe (l ++ [x]) = rdbe l * 256 + x.toNat := by simp [rdbe]
theorem rdbe_lt (l : List UInt8) : rdbe l < 256 ^ l.length := by
  have h : ∀ (l : List UInt8) (v k : Nat), v < 256 ^ k → l.foldl (fun v x => v * 256 + x.toNat) v < 256 ^ (k + l.length) := by
    intro l
    induction l with
    | nil => intro v k h; simpa using h
    | cons x l ih =>
      intro v k h
      have hx := x.toNat_lt
      have := ih (v * 256 + x.toNat) (k + 1) (by rw [Nat.pow_succ]; omega)
      simpa [Nat.add_assoc, Nat.add_comm 1] using this
  unfold rdbe; simpa using h l 0 0 (by decide)
theorem rdbe_small {l : List UInt8} {n : Nat} (hl : l.length ≤ n) (hn : n ≤ 8) : rdbe l < 18446744073709551616 := by
  refine Nat.lt_of_lt_of_le (rdbe_lt l) ?_
  exact Nat.le_trans (Nat.pow_le_pow_right (by decide) (show l.length ≤ 8 by omega)) (by decide)
theorem take_next {l : List UInt8} {k : Nat} {x : UInt8} (h : l[k]? = some x) : l.take (k + 1) = l.take k ++ [x] := by rw [List.take_add_one, h]; rfl

set_option maxHeartbeats 1000000 in
theorem get_calls (A : Option Addr) (m cap : Nat) (xs : List UInt8) (at_ n : Nat) (w : World) (hr : Rd w A m (ub xs)) (hc : m ≤ cap) (hm : m ≤ 140737488355328) (hn1 : 1 ≤ n) (hn8 : n ≤ 8) (hat : at_ + n ≤ m) :
    Calls Try.prog 71 #[.slice A m cap, .int .i64 (at_ : Int), .int .i64 (n : Int)] w fun e w' => e = .returned (.tuple #[.int .u64 (rdbe ((xs.drop at_).take n) : Int), .int .i64 0]) ∧ w = w' := by
  obtain ⟨A', hcut, hA⟩ := cut_lh (P := Try.prog) Try.underlying35 (size_of_info info_u8) A m cap at_ (at_ + n) (at_ : Int) ((at_ : Int) + (n : Int)) rfl (by omega) (by omega) hat hc
  have hr2 := hA _ _ hr
  rw [show at_ + n - at_ = n by omega] at hr2 hcut
  rw [ub_drop, ub_take] at hr2
  clear hA hr
  generalize hL : (xs.drop at_).take n = l at hr2 ⊢
  clear hL
  have hlen := hr2.len
  go_enter Try.func71, Try.ntmps71
  go_wp2_with fail
  go_loop [8, 36] (fun s i => ∃ k : Nat, k ≤ n ∧ i = .int .i64 k ∧ s = .int .u64 (rdbe (l.take k) : Int)) (fun _ i => n - (intOf i).toNat)
  case atStart => exact ⟨0, Nat.zero_le _, rfl, rfl⟩
  case round =>
    obtain ⟨k, hk, rfl, rfl⟩ := hrel
    by_cases hlt : k < n
    · obtain ⟨ad, x, rfl, hx, hcell⟩ := hr2.byte hlt
      have hs1 := rdbe_small (l := l.take (k + 1)) (n := n) (by simp; omega) hn8
      have Hx := Lib.hid ((congrArg rdbe (take_next hx)).trans (rdbe_snoc _ _))
      rw [Hx.out] at hs1
      have hx8 := x.toNat_lt
      clear hx
      generalize rdbe (l.take k) = r at *
      go_wp2_with fail
      go_round
      case rel => exact ⟨k + 1, by omega, by go_num, by rw [Hx.out]; go_num⟩
      case measure => simp [intOf]; omega
    · obtain rfl : k = n := by omega
      rw [List.take_of_length_le (by omega)]
      go_wp2_with fail
      go_ret2
      exact ⟨rfl, rfl⟩
end Go.Proofs.Ythcajaadbdiggaa
