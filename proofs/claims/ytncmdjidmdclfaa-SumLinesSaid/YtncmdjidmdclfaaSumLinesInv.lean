/- The walk of the law SumLines. -/
import Derived.Test.YtncmdjidmdclfaaSumLaws
import Derived.Test.YtncmdjidmdclfaaLaw0
import Derived.StillTailTactics
import Derived.Deep.RegionWith
import Derived.Test.YtncmdjidmdclfaaWInvWords
import Derived.Test.YtncmdjidmdclfaaWMore
import Derived.Test.YtncmdjidmdclfaaWLast
import Derived.Test.YtncmdjidmdclfaaWTab
import Derived.Test.YtncmdjidmdclfaaCutH
namespace Go.Proofs.Ytncmdjidmdclfaa
open Go.RowKit Go.Proofs.YtncmdjidmdclfaaW.PrintLast Go.Proofs.YtncmdjidmdclfaaW.PrintWords

theorem u8_nat (x : UInt8) : (x.toNat : Int) < 256 := by have := x.toNat_lt; omega
theorem xor3_u8 (x y z : UInt8) : bits BinOp.xor IntKind.u8 (bits BinOp.xor IntKind.u8 (x.toNat : Int) (y.toNat : Int)) (z.toNat : Int) = ((x ^^^ y ^^^ z).toNat : Int) := by
  have hx := x.toNat_lt; have hy := y.toNat_lt; have hz := z.toNat_lt
  rw [u8_xor_nat _ _ hx hy, u8_xor_nat _ _ (Nat.xor_lt_two_pow (n := 8) hx hy) hz]
  simp

def xor3 (xs ys zs : List UInt8) : List UInt8 := List.zipWith (fun p z => p ^^^ z) (List.zipWith (fun x y => x ^^^ y) xs ys) zs
/-- x, filled up to k -/
def xorTo (xs ys zs : List UInt8) (n k : Nat) : List Value := ub ((xor3 xs ys zs).take k) ++ List.replicate (n - k) (.int .u8 0)

theorem run_min4 {P : Program} (ts : Array TypeId) (t : TypeId) (a b c d : Int) (W : World) : (Builtin.min_ ts t #[.int .i64 a, .int .i64 b, .int .i64 c, .int .i64 d]).run P W = .ok (.int .i64 (min (min (min a b) c) d)) W := by
  simp only [Builtin.min_, List.foldlM_cons, List.foldlM_nil, Builtin.min2, Sem.run_bind, Sem.run_pure, Result.andThen_ok]
  congr 2
  split <;> split <;> split <;> omega

theorem xor3_length {xs ys zs : List UInt8} {n m : Nat} (h1 : m ≤ xs.length) (h2 : m ≤ ys.length) (h3 : m ≤ zs.length) : (xor3 (xs.take m) (ys.take m) (zs.take m)).length = m := by
  simp [xor3]; omega
theorem xor3_at {xs ys zs : List UInt8} {x y z : UInt8} {k : Nat} (hx : xs[k]? = some x) (hy : ys[k]? = some y) (hz : zs[k]? = some z) : (xor3 xs ys zs)[k]? = some (x ^^^ y ^^^ z) := by
  simp [xor3, List.getElem?_zipWith, hx, hy, hz]
theorem xorTo_set {xs ys zs : List UInt8} {x y z : UInt8} {n k : Nat} (hk : k < n) (hl : (xor3 xs ys zs).length = n) (h : (xor3 xs ys zs)[k]? = some (x ^^^ y ^^^ z)) :
    (xorTo xs ys zs n k).set k (.int .u8 ((x ^^^ y ^^^ z).toNat : Int)) = xorTo xs ys zs n (k + 1) := by
  unfold xorTo
  have e1 : (ub ((xor3 xs ys zs).take k)).length = k := by rw [ub_length, List.length_take]; omega
  rw [List.set_append_right _ _ (by omega), e1, Nat.sub_self, List.take_add_one, h, ub_append, List.append_assoc]
  obtain ⟨q, hq⟩ : ∃ q, n - k = q + 1 := ⟨n - k - 1, by omega⟩
  rw [hq, List.replicate_succ, List.set_cons_zero, show n - (k + 1) = q by omega]
  rfl
theorem xorTo_at {xs ys zs : List UInt8} {n k : Nat} (hk : k < n) (hl : (xor3 xs ys zs).length = n) : (xorTo xs ys zs n k)[k]? = some (.int .u8 0) := by
  unfold xorTo
  have e1 : (ub ((xor3 xs ys zs).take k)).length = k := by rw [ub_length, List.length_take]; omega
  rw [List.getElem?_append_right (by omega), e1, Nat.sub_self, List.getElem?_replicate, if_pos (by omega)]
theorem xorTo_zero (xs ys zs : List UInt8) (n : Nat) : (madeCells #[.int .u8 0] n) = (xorTo xs ys zs n 0).toArray := by
  simp [madeCells, xorTo, ub, Nat.mod_one]
  apply Array.ext'
  simp [List.map_const']
theorem take_at {α : Type} {l : List α} {k m : Nat} {x : α} (h : l[k]? = some x) (hk : k < m) : (l.take m)[k]? = some x := by rw [List.getElem?_take_of_lt hk]; exact h

theorem RdL.alloc {w : World} {A : Option Addr} {n : Nat} {ls : List (List UInt8)} (h : RdL w A n ls) (o : Obj) : RdL (w.alloc o) A n ls := h.below ((Below.refl w.heap.size w).alloc (Nat.le_refl _) o)
theorem Rd.alloc {w : World} {A : Option Addr} {n : Nat} {cs : List Value} (h : Rd w A n cs) (o : Obj) : Rd (w.alloc o) A n cs := h.below ((Below.refl w.heap.size w).alloc (Nat.le_refl _) o)
theorem nat8_xor3 : ∀ xs ys zs : List UInt8, nat8 (xor3 xs ys zs) = List.zipWith (fun p z => p ^^^ z) (List.zipWith (fun x y => x ^^^ y) (nat8 xs) (nat8 ys)) (nat8 zs)
  | [], _, _ => by simp [xor3, nat8]
  | _ :: _, [], _ => by simp [xor3, nat8]
  | _ :: _, _ :: _, [] => by simp [xor3, nat8]
  | x :: xs, y :: ys, z :: zs => by
    have ih := nat8_xor3 xs ys zs
    simp only [xor3, nat8] at ih
    simp [xor3, nat8, ih]

set_option maxHeartbeats 16000000 in
theorem sumlines_walk (w : World) (A : Option Addr) (n cap : Nat) (xs : List UInt8) (hrx : Rd w A n (ub xs)) (hn : n ≤ 140737488355328) (hc : n ≤ cap)
    (A2 : Option Addr) (n2 cap2 : Nat) (ys : List UInt8) (hry : Rd w A2 n2 (ub ys)) (hn2 : n2 ≤ 140737488355328) (hc2 : n2 ≤ cap2)
    (A3 : Option Addr) (n3 cap3 : Nat) (zs : List UInt8) (hrz : Rd w A3 n3 (ub zs)) (hn3 : n3 ≤ 140737488355328) (hc3 : n3 ≤ cap3) :
    Calls Try.prog 6 #[.slice A n cap, .slice A2 n2 cap2, .slice A3 n3 cap3] w fun e w' => e = .returned (.bool true) ∧ Below w.heap.size w w' := by
  obtain ⟨m, hm⟩ : ∃ m : Nat, m = min (min (min n n2) n3) 4096 := ⟨_, rfl⟩
  have hm1 : m ≤ n := by omega
  have hm2 : m ≤ n2 := by omega
  have hm3 : m ≤ n3 := by omega
  have hm4 : m ≤ 4096 := by omega
  have hmin := fun W => run_min4 (P := Try.prog) #[3, 3, 3, 3] 3 n n2 n3 4096 W
  rw [show min (min (min (n : Int) n2) n3) 4096 = (m : Int) by omega] at hmin
  have hmk := run_make_row' (P := Try.prog) 27 5 (.int .u8 0) 1 Try.underlying27 info_u8 rfl .i64 .i64 m (by omega) (by omega)
  have hl3 := xor3_length (n := n) (m := m) (by rw [hrx.len]; exact hm1) (by rw [hry.len]; exact hm2) (by rw [hrz.len]; exact hm3)
  rw [xorTo_zero (xs.take m) (ys.take m) (zs.take m)] at hmk
  have HL := Lib.hid hl3
  clear hm hl3
  go_enter Try.func6, Try.ntmps6
  go_wp2_with fail
  refine (begun_calls _).mono ?_
  rintro e w1 ⟨rfl, hb1⟩
  have hb2 := hb1.alloc hb1.size (.cells (xorTo (xs.take m) (ys.take m) (zs.take m) m 0).toArray 5)
  have Hblk := Lib.hid (alloc_new w1 (.cells (xorTo (xs.take m) (ys.take m) (zs.take m) m 0).toArray 5) _ rfl)
  have hsz := hb1.size
  clear hb1
  go_wp2_with fail
  clear hmin hmk
  go_loopw [9] (fun i wr => ∃ k : Nat, k ≤ m ∧ i = .int .i64 k ∧ Hid (wr.heap[w1.heap.size]? = some (.cells (xorTo (xs.take m) (ys.take m) (zs.take m) m k).toArray 5 (0, 0))) ∧ Below w.heap.size w wr) (fun i _ => m - (intOf i).toNat)
  case atStart => exact ⟨0, Nat.zero_le _, rfl, Hblk, hb2⟩
  case round =>
    obtain ⟨k, hk, rfl, Hb, hbel⟩ := hrel
    clear Hblk hb2
    by_cases hlt : k < m
    · obtain ⟨ad1, x, rfl, hx, hcx⟩ := (hrx.below hbel).byte (k := k) (by omega)
      obtain ⟨ad2, y, rfl, hy, hcy⟩ := (hry.below hbel).byte (k := k) (by omega)
      obtain ⟨ad3, z, rfl, hz, hcz⟩ := (hrz.below hbel).byte (k := k) (by omega)
      have Hset := Lib.hid (xorTo_set hlt HL.out (xor3_at (take_at hx hlt) (take_at hy hlt) (take_at hz hlt)))
      have hcell : wr.cell? ⟨w1.heap.size, k, none⟩ = some (.int .u8 0) := by rw [cell_row Hb.out]; simpa using xorTo_at hlt HL.out
      have hfree := free_row Hb.out k
      have hk0 : (0 : Int) ≤ k := by omega
      have hk1 : (k : Int) < n := by omega
      have hk2 : (k : Int) < n2 := by omega
      have hk3 : (k : Int) < n3 := by omega
      have hk4 : (k : Int) < m := by omega
      clear hx hy hz
      go_wp2_with fail
      go_still_tail 17, (by kernel_rfl)
      go_wp2_with fail
      rw [xor3_u8]
      have Hb2 := set_row Hb.out k (.int .u8 ((x ^^^ y ^^^ z).toNat : Int))
      rw [List.setIfInBounds_toArray, Hset.out] at Hb2
      refine ⟨⟨k + 1, by omega, by go_num, Hb2, (hbel.setCell (p := ⟨w1.heap.size, k, none⟩) hsz _).drew⟩, by simp [intOf]; omega⟩
    · obtain rfl : k = m := by omega
      have Hb1 := Hb.out
      have e1 : xorTo (xs.take k) (ys.take k) (zs.take k) k k = ub (xor3 (xs.take k) (ys.take k) (zs.take k)) := by
        unfold xorTo; rw [List.take_of_length_le (by rw [HL.out]; omega)]; simp
      rw [e1] at Hb1
      have hrw := Rd.of_row (n := k) (r := []) Hb1 (by rw [ub_length]; exact HL.out) (by simp)
      obtain ⟨A1, hcut1, hA1⟩ := cut_h (P := Try.prog) (t := 27) (e := 5) Try.underlying27 (by kernel_rfl) A n cap k hm1 hc
      obtain ⟨A4, hcut2, hA4⟩ := cut_h (P := Try.prog) (t := 27) (e := 5) Try.underlying27 (by kernel_rfl) A2 n2 cap2 k hm2 hc2
      obtain ⟨A5, hcut3, hA5⟩ := cut_h (P := Try.prog) (t := 27) (e := 5) Try.underlying27 (by kernel_rfl) A3 n3 cap3 k hm3 hc3
      have hr1 := hA1 wr xs (hrx.below hbel)
      have hr2 := hA4 wr ys (hry.below hbel)
      have hr3 := hA5 wr zs (hrz.below hbel)
      have hl0 := HL.out
      have hl1 := hr1.len
      have hl2 := hr2.len
      have hl3 := hr3.len
      have hlines := CRC.crc_lines (nat8 (xs.take k)) (nat8 (ys.take k)) (nat8 (zs.take k)) (by rw [nat8_length, nat8_length]; omega) (by rw [nat8_length, nat8_length]; omega) (nat8_lt _) (nat8_lt _) (nat8_lt _) (by rw [← nat8_xor3]; exact nat8_lt _)
      rw [← nat8_xor3] at hlines
      have hw0 : Rd wr.drew (some ⟨w1.heap.size, 0, none⟩) k (ub (xor3 (xs.take k) (ys.take k) (zs.take k))) := hrw.below (Below.refl wr.heap.size wr).drew
      have hw1 : Rd wr.drew A1 k (ub (xs.take k)) := hr1.below (Below.refl wr.heap.size wr).drew
      have hw2 : Rd wr.drew A4 k (ub (ys.take k)) := hr2.below (Below.refl wr.heap.size wr).drew
      have hw3 : Rd wr.drew A5 k (ub (zs.take k)) := hr3.below (Below.refl wr.heap.size wr).drew
      have hof : ∀ (W : World) (B : Option Addr) (X : List UInt8), X.length ≤ 4096 → RdL W B 1 [X] → Calls Try.prog 12 #[.slice B 1 1] W fun e w' => e = .returned (.int .u32 (CRC.crc 0 (nat8 X) : Int)) ∧ W = w' := fun W B X hX hB => by
        have h := of_calls B 1 1 [X] W hB (by decide) (fun l hl => by rw [List.mem_singleton] at hl; subst hl; omega)
        simpa using h
      have c0 := fun (W : World) (B : Option Addr) => hof W B _ (show (xor3 (xs.take k) (ys.take k) (zs.take k)).length ≤ 4096 by rw [hl0]; omega)
      have c1 := fun (W : World) (B : Option Addr) => hof W B _ (show (xs.take k).length ≤ 4096 by rw [hl1]; omega)
      have c2 := fun (W : World) (B : Option Addr) => hof W B _ (show (ys.take k).length ≤ 4096 by rw [hl2]; omega)
      have c3 := fun (W : World) (B : Option Addr) => hof W B _ (show (zs.take k).length ≤ 4096 by rw [hl3]; omega)
      have l1 := CRC.crc_lt 0 (nat8 (xs.take k))
      have l2 := CRC.crc_lt 0 (nat8 (ys.take k))
      have l3 := CRC.crc_lt 0 (nat8 (zs.take k))
      have k4 : k ≤ 4096 := hm4
      clear hof hl0 hl1 hl2 hl3 hr1 hr2 hr3 hA1 hA4 hA5 hrw
      generalize xor3 (xs.take k) (ys.take k) (zs.take k) = X0 at *
      generalize xs.take k = X1 at *
      generalize ys.take k = X2 at *
      generalize zs.take k = X3 at *
      have x12 := u32_xor_nat _ _ l1 l2
      have x123 := u32_xor_nat _ _ (Nat.xor_lt_two_pow (n := 32) l1 l2) l3
      rw [← hlines] at x123
      clear hlines l1 l2 l3 HL hrx hry hrz
      generalize CRC.crc 0 (nat8 X0) = C0 at *
      generalize CRC.crc 0 (nat8 X1) = C1 at *
      generalize CRC.crc 0 (nat8 X2) = C2 at *
      generalize CRC.crc 0 (nat8 X3) = C3 at *
      generalize C1 ^^^ C2 = C12 at *
      have hk1 : (k : Int) ≤ cap := by omega
      have hk2 : (k : Int) ≤ cap2 := by omega
      have hk3 : (k : Int) ≤ cap3 := by omega
      have hk4 : (0 : Int) ≤ k := by omega
      have H0 := Lib.hid hw0
      have H1 := Lib.hid hw1
      have H2 := Lib.hid hw2
      have H3 := Lib.hid hw3
      have Hc0 := Lib.hid c0
      have Hc1 := Lib.hid c1
      have Hc2 := Lib.hid c2
      have Hc3 := Lib.hid c3
      have HB := Lib.hid hbel
      clear hw0 hw1 hw2 hw3 c0 c1 c2 c3 hbel Hb1 e1 Hb
      go_wp2_with fail
      have K_ := Below.refl wr.drew.heap.size wr.drew
      refine start_ (n := 22) (S := fun w' => True) (ds := []) #[false, false, false, false, false, false, false, false, false, false, false, false, false, false, false, false, false, false, false, false, false, false] (by kernel_rfl) rfl rfl trivial (fun hHeld => ?_)
      refine pure_ (i := 0) (N := some 43) (v := ?_) (a' := ?_) #[true, false, false, false, false, false, false, false, false, false, false, false, false, false, false, false, false, false, false, false, false, false] rfl rfl (by kernel_rfl) (fun _ _ _ h => h) (Or.inl ⟨by rfl, ?_⟩) ?_ ?_
      rotate_left
      · intro w'
        go_simp
        with_reducible rfl
      rotate_left
      · simp only [Act.put, List.setIfInBounds_toArray, List.set_cons_zero, List.set_cons_succ, i64_w, i32_w]
        rfl
      refine pure_ (i := 3) (N := some 46) (v := ?_) (a' := ?_) #[true, false, false, true, false, false, false, false, false, false, false, false, false, false, false, false, false, false, false, false, false, false] rfl rfl (by kernel_rfl) (fun _ _ _ h => h) (Or.inl ⟨by rfl, ?_⟩) ?_ ?_
      rotate_left
      · intro w'
        go_simp
        with_reducible rfl
      rotate_left
      · simp only [Act.put, List.setIfInBounds_toArray, List.set_cons_zero, List.set_cons_succ, i64_w, i32_w]
        rfl
      refine pure_ (i := 4) (N := some 47) (v := ?_) (a' := ?_) #[true, false, false, true, true, false, false, false, false, false, false, false, false, false, false, false, false, false, false, false, false, false] rfl rfl (by kernel_rfl) (fun _ _ _ h => h) (Or.inl ⟨by rfl, ?_⟩) ?_ ?_
      rotate_left
      · intro w'
        go_simp
        with_reducible rfl
      rotate_left
      · simp only [Act.put, List.setIfInBounds_toArray, List.set_cons_zero, List.set_cons_succ, i64_w, i32_w]
        rfl
      refine pure_ (i := 5) (N := some 48) (v := ?_) (a' := ?_) #[true, false, false, true, true, true, false, false, false, false, false, false, false, false, false, false, false, false, false, false, false, false] rfl rfl (by kernel_rfl) (fun _ _ _ h => h) (Or.inl ⟨by rfl, ?_⟩) ?_ ?_
      rotate_left
      · intro w'
        go_simp
        with_reducible rfl
      rotate_left
      · simp only [Act.put, List.setIfInBounds_toArray, List.set_cons_zero, List.set_cons_succ, i64_w, i32_w]
        rfl
      refine pure_ (i := 8) (N := some 51) (v := ?_) (a' := ?_) #[true, false, false, true, true, true, false, false, true, false, false, false, false, false, false, false, false, false, false, false, false, false] rfl rfl (by kernel_rfl) (fun _ _ _ h => h) (Or.inl ⟨by rfl, ?_⟩) ?_ ?_
      rotate_left
      · intro w'
        go_simp
        with_reducible rfl
      rotate_left
      · simp only [Act.put, List.setIfInBounds_toArray, List.set_cons_zero, List.set_cons_succ, i64_w, i32_w]
        rfl
      refine pure_ (i := 9) (N := some 52) (v := ?_) (a' := ?_) #[true, false, false, true, true, true, false, false, true, true, false, false, false, false, false, false, false, false, false, false, false, false] rfl rfl (by kernel_rfl) (fun _ _ _ h => h) (Or.inl ⟨by rfl, ?_⟩) ?_ ?_
      rotate_left
      · intro w'
        go_simp
        with_reducible rfl
      rotate_left
      · simp only [Act.put, List.setIfInBounds_toArray, List.set_cons_zero, List.set_cons_succ, i64_w, i32_w]
        rfl
      refine pure_ (i := 10) (N := some 53) (v := ?_) (a' := ?_) #[true, false, false, true, true, true, false, false, true, true, true, false, false, false, false, false, false, false, false, false, false, false] rfl rfl (by kernel_rfl) (fun _ _ _ h => h) (Or.inl ⟨by rfl, ?_⟩) ?_ ?_
      rotate_left
      · intro w'
        go_simp
        with_reducible rfl
      rotate_left
      · simp only [Act.put, List.setIfInBounds_toArray, List.set_cons_zero, List.set_cons_succ, i64_w, i32_w]
        rfl
      refine pure_ (i := 14) (N := some 57) (v := ?_) (a' := ?_) #[true, false, false, true, true, true, false, false, true, true, true, false, false, false, true, false, false, false, false, false, false, false] rfl rfl (by kernel_rfl) (fun _ _ _ h => h) (Or.inl ⟨by rfl, ?_⟩) ?_ ?_
      rotate_left
      · intro w'
        go_simp
        with_reducible rfl
      rotate_left
      · simp only [Act.put, List.setIfInBounds_toArray, List.set_cons_zero, List.set_cons_succ, i64_w, i32_w]
        rfl
      refine pure_ (i := 15) (N := some 58) (v := ?_) (a' := ?_) #[true, false, false, true, true, true, false, false, true, true, true, false, false, false, true, true, false, false, false, false, false, false] rfl rfl (by kernel_rfl) (fun _ _ _ h => h) (Or.inl ⟨by rfl, ?_⟩) ?_ ?_
      rotate_left
      · intro w'
        go_simp
        with_reducible rfl
      rotate_left
      · simp only [Act.put, List.setIfInBounds_toArray, List.set_cons_zero, List.set_cons_succ, i64_w, i32_w]
        rfl
      refine pure_ (i := 16) (N := some 59) (v := ?_) (a' := ?_) #[true, false, false, true, true, true, false, false, true, true, true, false, false, false, true, true, true, false, false, false, false, false] rfl rfl (by kernel_rfl) (fun _ _ _ h => h) (Or.inl ⟨by rfl, ?_⟩) ?_ ?_
      rotate_left
      · intro w'
        go_simp
        with_reducible rfl
      rotate_left
      · simp only [Act.put, List.setIfInBounds_toArray, List.set_cons_zero, List.set_cons_succ, i64_w, i32_w]
        rfl
      refine inv_at [1, 2, 6, 7, 11, 12, 13, 17, 18, 19, 20, 21] (fun a0_ b a w' => ∃ (g0_ : Nat) (g1_ : Nat) (g2_ : Nat) (g3_ : Nat) (m1_ : Value) (m6_ : Value) (m11_ : Value) (m17_ : Value), a = putSel a0_ b [(1, 44, m1_), (2, 45, .int .u32 (C0 : Int)), (6, 49, m6_), (7, 50, .int .u32 (C1 : Int)), (11, 54, m11_), (12, 55, .int .u32 (C2 : Int)), (13, 56, .int .u32 (C12 : Int)), (17, 60, m17_), (18, 61, .int .u32 (C3 : Int)), (19, 62, .int .u32 (C0 : Int)), (20, 63, .bool true), (21, 6, .bool true)] ∧ (Below wr.drew.heap.size wr.drew w') ∧ (b 1 = true → RdL w' (some ⟨g0_, 0, none⟩) 1 [X0]) ∧ (b 6 = true → RdL w' (some ⟨g1_, 0, none⟩) 1 [X1]) ∧ (b 11 = true → RdL w' (some ⟨g2_, 0, none⟩) 1 [X2]) ∧ (b 17 = true → RdL w' (some ⟨g3_, 0, none⟩) 1 [X3]) ∧ (b 1 = true → (m1_ : Value) = .slice (some ⟨g0_, 0, none⟩) 1 1) ∧ (b 6 = true → (m6_ : Value) = .slice (some ⟨g1_, 0, none⟩) 1 1) ∧ (b 11 = true → (m11_ : Value) = .slice (some ⟨g2_, 0, none⟩) 1 1) ∧ (b 17 = true → (m17_ : Value) = .slice (some ⟨g3_, 0, none⟩) 1 1)) rfl (B := [0, 1, 3, 0, 0, 24, 56, 127, 0, 0, 768, 1792, 4095, 8191, 0, 0, 49152, 114688, 253951, 524287, 1048575, 2097151]) (by kernel_rfl) (by kernel_rfl) (by kernel_rfl) ?_ ?_ ?_
      · exact ⟨0, 0, 0, 0, .bool false, .bool false, .bool false, .bool false, by simp only [putSel, Bool.false_eq_true, if_false], K_, fun h_ => absurd h_ (by decide), fun h_ => absurd h_ (by decide), fun h_ => absurd h_ (by decide), fun h_ => absurd h_ (by decide), fun h_ => absurd h_ (by decide), fun h_ => absurd h_ (by decide), fun h_ => absurd h_ (by decide), fun h_ => absurd h_ (by decide)⟩
      · skip
        clear K_
        refine steps_cons ?_ ?_
        · rintro b a w' ⟨g0_, g1_, g2_, g3_, m1_, m6_, m11_, m17_, ha, Q_K_, Q_L0_, Q_L1_, Q_L2_, Q_L3_, Q_X1_, Q_X6_, Q_X11_, Q_X17_⟩ hb_ hon hoff
          refine ⟨_, rfl, fun K hK => ?_⟩
          have e43 : a.tmps[43]? = some (.slice (some ⟨w1.heap.size, 0, none⟩) k k) := by rw [ha]; exact (putSel_off rfl).trans rfl
          replace ha := Aside0.mk ha
          have K_ := Aside0.mk Q_K_
          refine value_ (w1 := w'.alloc (.cells #[.slice (some ⟨w1.heap.size, 0, none⟩) k k] 27)) (v := .slice (some ⟨w'.heap.size, 0, none⟩) 1 1) (by rfl) rfl ?_ ?_
          · go_simp
          refine hK.out _ _ ⟨w'.heap.size, g1_, g2_, g3_, (.slice (some ⟨w'.heap.size, 0, none⟩) 1 1), m6_, m11_, m17_, (by rw [ha.out]; exact putSel_upk 0 hb_ rfl rfl rfl), K_.out.alloc K_.out.size _, fun _ => rdl_one_at (H0.out.below K_.out) (by omega) _ _ rfl, fun h0_ => (Q_L1_ h0_).alloc _, fun h0_ => (Q_L2_ h0_).alloc _, fun h0_ => (Q_L3_ h0_).alloc _, fun _ => rfl, Q_X6_, Q_X11_, Q_X17_⟩
        refine steps_cons ?_ ?_
        · rintro b a w' ⟨g0_, g1_, g2_, g3_, m1_, m6_, m11_, m17_, ha, Q_K_, Q_L0_, Q_L1_, Q_L2_, Q_L3_, Q_X1_, Q_X6_, Q_X11_, Q_X17_⟩ hb_ hon hoff
          refine ⟨_, rfl, fun K hK => ?_⟩
          have e44 : a.tmps[44]? = some (m1_) := by rw [ha]; exact putSel_on (e := (1, 44, m1_)) 0 rfl rfl (hon 1 (by kernel_rfl)) rfl
          rw [Q_X1_ (hon 1 (by kernel_rfl))] at e44
          replace ha := Aside0.mk ha
          have K_ := Aside0.mk Q_K_
          have L0_ := Aside0.mk (Q_L0_ (hon 1 (by kernel_rfl)))
          refine goes_ Try.func12 (by kernel_rfl) rfl #[.slice (some ⟨g0_, 0, none⟩) 1 1] (by rfl) rfl rfl (by first | (simp only [List.map_toArray, List.map_cons, List.map_nil, Act.eval, Array.getD_eq_getD_getElem?, Option.getD_some, e44]; done) | (simp only [List.map_toArray, List.map_cons, List.map_nil, Act.eval, Array.getD_eq_getD_getElem?, Option.getD_some, e44]; rfl)) ?_
          refine (Hc0.out _ _ L0_.out).mono ?_
          rintro e_ w9_ ⟨rfl, hw9_⟩
          cases hw9_
          refine ⟨_, rfl, ?_⟩
          refine hK.out _ _ ⟨g0_, g1_, g2_, g3_, m1_, m6_, m11_, m17_, (by rw [ha.out]; exact putSel_upk 1 hb_ rfl rfl rfl), K_.out, fun _ => L0_.out, fun h0_ => (Q_L1_ h0_), fun h0_ => (Q_L2_ h0_), fun h0_ => (Q_L3_ h0_), Q_X1_, Q_X6_, Q_X11_, Q_X17_⟩
        refine steps_cons ?_ ?_
        · rintro b a w' ⟨g0_, g1_, g2_, g3_, m1_, m6_, m11_, m17_, ha, Q_K_, Q_L0_, Q_L1_, Q_L2_, Q_L3_, Q_X1_, Q_X6_, Q_X11_, Q_X17_⟩ hb_ hon hoff
          refine ⟨_, rfl, fun K hK => ?_⟩
          have e48 : a.tmps[48]? = some (.slice A1 k cap) := by rw [ha]; exact (putSel_off rfl).trans rfl
          replace ha := Aside0.mk ha
          have K_ := Aside0.mk Q_K_
          refine value_ (w1 := w'.alloc (.cells #[.slice A1 k cap] 27)) (v := .slice (some ⟨w'.heap.size, 0, none⟩) 1 1) (by rfl) rfl ?_ ?_
          · go_simp
          refine hK.out _ _ ⟨g0_, w'.heap.size, g2_, g3_, m1_, (.slice (some ⟨w'.heap.size, 0, none⟩) 1 1), m11_, m17_, (by rw [ha.out]; exact putSel_upk 2 hb_ rfl rfl rfl), K_.out.alloc K_.out.size _, fun h0_ => (Q_L0_ h0_).alloc _, fun _ => rdl_one_at (H1.out.below K_.out) (by omega) _ _ rfl, fun h0_ => (Q_L2_ h0_).alloc _, fun h0_ => (Q_L3_ h0_).alloc _, Q_X1_, fun _ => rfl, Q_X11_, Q_X17_⟩
        refine steps_cons ?_ ?_
        · rintro b a w' ⟨g0_, g1_, g2_, g3_, m1_, m6_, m11_, m17_, ha, Q_K_, Q_L0_, Q_L1_, Q_L2_, Q_L3_, Q_X1_, Q_X6_, Q_X11_, Q_X17_⟩ hb_ hon hoff
          refine ⟨_, rfl, fun K hK => ?_⟩
          have e49 : a.tmps[49]? = some (m6_) := by rw [ha]; exact putSel_on (e := (6, 49, m6_)) 2 rfl rfl (hon 6 (by kernel_rfl)) rfl
          rw [Q_X6_ (hon 6 (by kernel_rfl))] at e49
          replace ha := Aside0.mk ha
          have K_ := Aside0.mk Q_K_
          have L0_ := Aside0.mk (Q_L0_ (hon 1 (by kernel_rfl)))
          have L1_ := Aside0.mk (Q_L1_ (hon 6 (by kernel_rfl)))
          refine goes_ Try.func12 (by kernel_rfl) rfl #[.slice (some ⟨g1_, 0, none⟩) 1 1] (by rfl) rfl rfl (by first | (simp only [List.map_toArray, List.map_cons, List.map_nil, Act.eval, Array.getD_eq_getD_getElem?, Option.getD_some, e49]; done) | (simp only [List.map_toArray, List.map_cons, List.map_nil, Act.eval, Array.getD_eq_getD_getElem?, Option.getD_some, e49]; rfl)) ?_
          refine (Hc1.out _ _ L1_.out).mono ?_
          rintro e_ w9_ ⟨rfl, hw9_⟩
          cases hw9_
          refine ⟨_, rfl, ?_⟩
          refine hK.out _ _ ⟨g0_, g1_, g2_, g3_, m1_, m6_, m11_, m17_, (by rw [ha.out]; exact putSel_upk 3 hb_ rfl rfl rfl), K_.out, fun _ => L0_.out, fun _ => L1_.out, fun h0_ => (Q_L2_ h0_), fun h0_ => (Q_L3_ h0_), Q_X1_, Q_X6_, Q_X11_, Q_X17_⟩
        refine steps_cons ?_ ?_
        · rintro b a w' ⟨g0_, g1_, g2_, g3_, m1_, m6_, m11_, m17_, ha, Q_K_, Q_L0_, Q_L1_, Q_L2_, Q_L3_, Q_X1_, Q_X6_, Q_X11_, Q_X17_⟩ hb_ hon hoff
          refine ⟨_, rfl, fun K hK => ?_⟩
          have e53 : a.tmps[53]? = some (.slice A4 k cap2) := by rw [ha]; exact (putSel_off rfl).trans rfl
          replace ha := Aside0.mk ha
          have K_ := Aside0.mk Q_K_
          refine value_ (w1 := w'.alloc (.cells #[.slice A4 k cap2] 27)) (v := .slice (some ⟨w'.heap.size, 0, none⟩) 1 1) (by rfl) rfl ?_ ?_
          · go_simp
          refine hK.out _ _ ⟨g0_, g1_, w'.heap.size, g3_, m1_, m6_, (.slice (some ⟨w'.heap.size, 0, none⟩) 1 1), m17_, (by rw [ha.out]; exact putSel_upk 4 hb_ rfl rfl rfl), K_.out.alloc K_.out.size _, fun h0_ => (Q_L0_ h0_).alloc _, fun h0_ => (Q_L1_ h0_).alloc _, fun _ => rdl_one_at (H2.out.below K_.out) (by omega) _ _ rfl, fun h0_ => (Q_L3_ h0_).alloc _, Q_X1_, Q_X6_, fun _ => rfl, Q_X17_⟩
        refine steps_cons ?_ ?_
        · rintro b a w' ⟨g0_, g1_, g2_, g3_, m1_, m6_, m11_, m17_, ha, Q_K_, Q_L0_, Q_L1_, Q_L2_, Q_L3_, Q_X1_, Q_X6_, Q_X11_, Q_X17_⟩ hb_ hon hoff
          refine ⟨_, rfl, fun K hK => ?_⟩
          have e54 : a.tmps[54]? = some (m11_) := by rw [ha]; exact putSel_on (e := (11, 54, m11_)) 4 rfl rfl (hon 11 (by kernel_rfl)) rfl
          rw [Q_X11_ (hon 11 (by kernel_rfl))] at e54
          replace ha := Aside0.mk ha
          have K_ := Aside0.mk Q_K_
          have L0_ := Aside0.mk (Q_L0_ (hon 1 (by kernel_rfl)))
          have L1_ := Aside0.mk (Q_L1_ (hon 6 (by kernel_rfl)))
          have L2_ := Aside0.mk (Q_L2_ (hon 11 (by kernel_rfl)))
          refine goes_ Try.func12 (by kernel_rfl) rfl #[.slice (some ⟨g2_, 0, none⟩) 1 1] (by rfl) rfl rfl (by first | (simp only [List.map_toArray, List.map_cons, List.map_nil, Act.eval, Array.getD_eq_getD_getElem?, Option.getD_some, e54]; done) | (simp only [List.map_toArray, List.map_cons, List.map_nil, Act.eval, Array.getD_eq_getD_getElem?, Option.getD_some, e54]; rfl)) ?_
          refine (Hc2.out _ _ L2_.out).mono ?_
          rintro e_ w9_ ⟨rfl, hw9_⟩
          cases hw9_
          refine ⟨_, rfl, ?_⟩
          refine hK.out _ _ ⟨g0_, g1_, g2_, g3_, m1_, m6_, m11_, m17_, (by rw [ha.out]; exact putSel_upk 5 hb_ rfl rfl rfl), K_.out, fun _ => L0_.out, fun _ => L1_.out, fun _ => L2_.out, fun h0_ => (Q_L3_ h0_), Q_X1_, Q_X6_, Q_X11_, Q_X17_⟩
        refine steps_cons ?_ ?_
        · rintro b a w' ⟨g0_, g1_, g2_, g3_, m1_, m6_, m11_, m17_, ha, Q_K_, Q_L0_, Q_L1_, Q_L2_, Q_L3_, Q_X1_, Q_X6_, Q_X11_, Q_X17_⟩ hb_ hon hoff
          refine ⟨_, rfl, fun K hK => ?_⟩
          have e50 : a.tmps[50]? = some (.int .u32 (C1 : Int)) := by rw [ha]; exact putSel_on (e := (7, 50, .int .u32 (C1 : Int))) 3 rfl rfl (hon 7 (by kernel_rfl)) rfl
          have e55 : a.tmps[55]? = some (.int .u32 (C2 : Int)) := by rw [ha]; exact putSel_on (e := (12, 55, .int .u32 (C2 : Int))) 5 rfl rfl (hon 12 (by kernel_rfl)) rfl
          replace ha := Aside0.mk ha
          have K_ := Aside0.mk Q_K_
          have L0_ := Aside0.mk (Q_L0_ (hon 1 (by kernel_rfl)))
          have L1_ := Aside0.mk (Q_L1_ (hon 6 (by kernel_rfl)))
          have L2_ := Aside0.mk (Q_L2_ (hon 11 (by kernel_rfl)))
          refine value_ (w1 := w') (v := .int .u32 (C12 : Int)) (by rfl) rfl ?_ ?_
          · go_simp
            (try simp only [i64_w])
            try rfl
          refine hK.out _ _ ⟨g0_, g1_, g2_, g3_, m1_, m6_, m11_, m17_, (by rw [ha.out]; exact putSel_upk 6 hb_ rfl rfl rfl), Q_K_, Q_L0_, Q_L1_, Q_L2_, Q_L3_, Q_X1_, Q_X6_, Q_X11_, Q_X17_⟩
        refine steps_cons ?_ ?_
        · rintro b a w' ⟨g0_, g1_, g2_, g3_, m1_, m6_, m11_, m17_, ha, Q_K_, Q_L0_, Q_L1_, Q_L2_, Q_L3_, Q_X1_, Q_X6_, Q_X11_, Q_X17_⟩ hb_ hon hoff
          refine ⟨_, rfl, fun K hK => ?_⟩
          have e59 : a.tmps[59]? = some (.slice A5 k cap3) := by rw [ha]; exact (putSel_off rfl).trans rfl
          replace ha := Aside0.mk ha
          have K_ := Aside0.mk Q_K_
          refine value_ (w1 := w'.alloc (.cells #[.slice A5 k cap3] 27)) (v := .slice (some ⟨w'.heap.size, 0, none⟩) 1 1) (by rfl) rfl ?_ ?_
          · go_simp
          refine hK.out _ _ ⟨g0_, g1_, g2_, w'.heap.size, m1_, m6_, m11_, (.slice (some ⟨w'.heap.size, 0, none⟩) 1 1), (by rw [ha.out]; exact putSel_upk 7 hb_ rfl rfl rfl), K_.out.alloc K_.out.size _, fun h0_ => (Q_L0_ h0_).alloc _, fun h0_ => (Q_L1_ h0_).alloc _, fun h0_ => (Q_L2_ h0_).alloc _, fun _ => rdl_one_at (H3.out.below K_.out) (by omega) _ _ rfl, Q_X1_, Q_X6_, Q_X11_, fun _ => rfl⟩
        refine steps_cons ?_ ?_
        · rintro b a w' ⟨g0_, g1_, g2_, g3_, m1_, m6_, m11_, m17_, ha, Q_K_, Q_L0_, Q_L1_, Q_L2_, Q_L3_, Q_X1_, Q_X6_, Q_X11_, Q_X17_⟩ hb_ hon hoff
          refine ⟨_, rfl, fun K hK => ?_⟩
          have e60 : a.tmps[60]? = some (m17_) := by rw [ha]; exact putSel_on (e := (17, 60, m17_)) 7 rfl rfl (hon 17 (by kernel_rfl)) rfl
          rw [Q_X17_ (hon 17 (by kernel_rfl))] at e60
          replace ha := Aside0.mk ha
          have K_ := Aside0.mk Q_K_
          have L0_ := Aside0.mk (Q_L0_ (hon 1 (by kernel_rfl)))
          have L1_ := Aside0.mk (Q_L1_ (hon 6 (by kernel_rfl)))
          have L2_ := Aside0.mk (Q_L2_ (hon 11 (by kernel_rfl)))
          have L3_ := Aside0.mk (Q_L3_ (hon 17 (by kernel_rfl)))
          refine goes_ Try.func12 (by kernel_rfl) rfl #[.slice (some ⟨g3_, 0, none⟩) 1 1] (by rfl) rfl rfl (by first | (simp only [List.map_toArray, List.map_cons, List.map_nil, Act.eval, Array.getD_eq_getD_getElem?, Option.getD_some, e60]; done) | (simp only [List.map_toArray, List.map_cons, List.map_nil, Act.eval, Array.getD_eq_getD_getElem?, Option.getD_some, e60]; rfl)) ?_
          refine (Hc3.out _ _ L3_.out).mono ?_
          rintro e_ w9_ ⟨rfl, hw9_⟩
          cases hw9_
          refine ⟨_, rfl, ?_⟩
          refine hK.out _ _ ⟨g0_, g1_, g2_, g3_, m1_, m6_, m11_, m17_, (by rw [ha.out]; exact putSel_upk 8 hb_ rfl rfl rfl), K_.out, fun _ => L0_.out, fun _ => L1_.out, fun _ => L2_.out, fun _ => L3_.out, Q_X1_, Q_X6_, Q_X11_, Q_X17_⟩
        refine steps_cons ?_ ?_
        · rintro b a w' ⟨g0_, g1_, g2_, g3_, m1_, m6_, m11_, m17_, ha, Q_K_, Q_L0_, Q_L1_, Q_L2_, Q_L3_, Q_X1_, Q_X6_, Q_X11_, Q_X17_⟩ hb_ hon hoff
          refine ⟨_, rfl, fun K hK => ?_⟩
          have e56 : a.tmps[56]? = some (.int .u32 (C12 : Int)) := by rw [ha]; exact putSel_on (e := (13, 56, .int .u32 (C12 : Int))) 6 rfl rfl (hon 13 (by kernel_rfl)) rfl
          have e61 : a.tmps[61]? = some (.int .u32 (C3 : Int)) := by rw [ha]; exact putSel_on (e := (18, 61, .int .u32 (C3 : Int))) 8 rfl rfl (hon 18 (by kernel_rfl)) rfl
          replace ha := Aside0.mk ha
          have K_ := Aside0.mk Q_K_
          have L0_ := Aside0.mk (Q_L0_ (hon 1 (by kernel_rfl)))
          have L1_ := Aside0.mk (Q_L1_ (hon 6 (by kernel_rfl)))
          have L2_ := Aside0.mk (Q_L2_ (hon 11 (by kernel_rfl)))
          have L3_ := Aside0.mk (Q_L3_ (hon 17 (by kernel_rfl)))
          refine value_ (w1 := w') (v := .int .u32 (C0 : Int)) (by rfl) rfl ?_ ?_
          · go_simp
            (try simp only [i64_w])
            try rfl
          refine hK.out _ _ ⟨g0_, g1_, g2_, g3_, m1_, m6_, m11_, m17_, (by rw [ha.out]; exact putSel_upk 9 hb_ rfl rfl rfl), Q_K_, Q_L0_, Q_L1_, Q_L2_, Q_L3_, Q_X1_, Q_X6_, Q_X11_, Q_X17_⟩
        refine steps_cons ?_ ?_
        · rintro b a w' ⟨g0_, g1_, g2_, g3_, m1_, m6_, m11_, m17_, ha, Q_K_, Q_L0_, Q_L1_, Q_L2_, Q_L3_, Q_X1_, Q_X6_, Q_X11_, Q_X17_⟩ hb_ hon hoff
          refine ⟨_, rfl, fun K hK => ?_⟩
          have e45 : a.tmps[45]? = some (.int .u32 (C0 : Int)) := by rw [ha]; exact putSel_on (e := (2, 45, .int .u32 (C0 : Int))) 1 rfl rfl (hon 2 (by kernel_rfl)) rfl
          have e62 : a.tmps[62]? = some (.int .u32 (C0 : Int)) := by rw [ha]; exact putSel_on (e := (19, 62, .int .u32 (C0 : Int))) 9 rfl rfl (hon 19 (by kernel_rfl)) rfl
          replace ha := Aside0.mk ha
          have K_ := Aside0.mk Q_K_
          have L0_ := Aside0.mk (Q_L0_ (hon 1 (by kernel_rfl)))
          have L1_ := Aside0.mk (Q_L1_ (hon 6 (by kernel_rfl)))
          have L2_ := Aside0.mk (Q_L2_ (hon 11 (by kernel_rfl)))
          have L3_ := Aside0.mk (Q_L3_ (hon 17 (by kernel_rfl)))
          refine value_ (w1 := w') (v := .bool true) (by rfl) rfl ?_ ?_
          · go_simp
            (try simp only [i64_w])
            try rfl
          refine hK.out _ _ ⟨g0_, g1_, g2_, g3_, m1_, m6_, m11_, m17_, (by rw [ha.out]; exact putSel_upk 10 hb_ rfl rfl rfl), Q_K_, Q_L0_, Q_L1_, Q_L2_, Q_L3_, Q_X1_, Q_X6_, Q_X11_, Q_X17_⟩
        refine steps_cons ?_ ?_
        · rintro b a w' ⟨g0_, g1_, g2_, g3_, m1_, m6_, m11_, m17_, ha, Q_K_, Q_L0_, Q_L1_, Q_L2_, Q_L3_, Q_X1_, Q_X6_, Q_X11_, Q_X17_⟩ hb_ hon hoff
          refine ⟨_, rfl, fun K hK => ?_⟩
          have e63 : a.tmps[63]? = some (.bool true) := by rw [ha]; exact putSel_on (e := (20, 63, .bool true)) 10 rfl rfl (hon 20 (by kernel_rfl)) rfl
          replace ha := Aside0.mk ha
          have K_ := Aside0.mk Q_K_
          have L0_ := Aside0.mk (Q_L0_ (hon 1 (by kernel_rfl)))
          have L1_ := Aside0.mk (Q_L1_ (hon 6 (by kernel_rfl)))
          have L2_ := Aside0.mk (Q_L2_ (hon 11 (by kernel_rfl)))
          have L3_ := Aside0.mk (Q_L3_ (hon 17 (by kernel_rfl)))
          refine value_ (w1 := w') (v := .bool true) (by rfl) rfl ?_ ?_
          · go_simp
            (try simp only [i64_w])
            try rfl
          refine hK.out _ _ ⟨g0_, g1_, g2_, g3_, m1_, m6_, m11_, m17_, (by rw [ha.out]; exact putSel_upk 11 hb_ rfl rfl rfl), Q_K_, Q_L0_, Q_L1_, Q_L2_, Q_L3_, Q_X1_, Q_X6_, Q_X11_, Q_X17_⟩
        exact steps_nil
      · rintro b a w' hall ⟨g0_, g1_, g2_, g3_, m1_, m6_, m11_, m17_, ha, Q_K_, Q_L0_, Q_L1_, Q_L2_, Q_L3_, Q_X1_, Q_X6_, Q_X11_, Q_X17_⟩
        clear K_
        have hb1_ := hall 1 (by kernel_rfl)
        have hb2_ := hall 2 (by kernel_rfl)
        have hb6_ := hall 6 (by kernel_rfl)
        have hb7_ := hall 7 (by kernel_rfl)
        have hb11_ := hall 11 (by kernel_rfl)
        have hb12_ := hall 12 (by kernel_rfl)
        have hb13_ := hall 13 (by kernel_rfl)
        have hb17_ := hall 17 (by kernel_rfl)
        have hb18_ := hall 18 (by kernel_rfl)
        have hb19_ := hall 19 (by kernel_rfl)
        have hb20_ := hall 20 (by kernel_rfl)
        have hb21_ := hall 21 (by kernel_rfl)
        subst ha
        obtain rfl := Q_X1_ hb1_
        obtain rfl := Q_X6_ hb6_
        obtain rfl := Q_X11_ hb11_
        obtain rfl := Q_X17_ hb17_
        simp only [putSel, hb1_, hb2_, hb6_, hb7_, hb11_, hb12_, hb13_, hb17_, hb18_, hb19_, hb20_, hb21_, if_true, Act.put, List.setIfInBounds_toArray, List.set_cons_zero, List.set_cons_succ]
        have K_ := Aside0.mk Q_K_
        clear Q_K_
        have L0_ := Aside0.mk (Q_L0_ hb1_)
        clear Q_L0_
        have L1_ := Aside0.mk (Q_L1_ hb6_)
        clear Q_L1_
        have L2_ := Aside0.mk (Q_L2_ hb11_)
        clear Q_L2_
        have L3_ := Aside0.mk (Q_L3_ hb17_)
        clear Q_L3_
        clear hall hb1_ hb2_ hb6_ hb7_ hb11_ hb12_ hb13_ hb17_ hb18_ hb19_ hb20_ hb21_
        clear L0_ L1_ L2_ L3_ Hc0 Hc1 Hc2 Hc3 H0 H1 H2 H3
        have Hfin := Lib.hid (below_then HB.out.drew K_.out)
        clear K_ HB
        go_wp2_with fail
        go_ret
        exact ⟨rfl, Hfin.out⟩
end Go.Proofs.Ytncmdjidmdclfaa
