/- What a scan reaches. -/
import Derived.Test.YthcajaadbdiggaaFrameMath
namespace Go.Proofs.Ythcajaadbdiggaa

theorem reach_end (xs : List UInt8) : ∀ (k : Nat) (ls : List (List UInt8)) (a : Nat), Reach xs ls a → xs.length - a ≤ k → ∃ ls' a', Reach xs ls' a' ∧ nextErr xs a' ≠ 0
  | k, ls, a, h, hk => by
    by_cases hst : nextErr xs a = 0
    · have h2 := h.step hst
      have hb := next_ok hst
      cases k with
      | zero => omega
      | succ k => exact reach_end xs k _ _ h2 (by omega)
    · exact ⟨ls, a, h, hst⟩
theorem scan_reach (xs : List UInt8) : Reach xs (scanOf xs).1 (scanOf xs).2 ∧ nextErr xs (scanOf xs).2 ≠ 0 := by
  obtain ⟨ls, a, h, he⟩ := reach_end xs _ [] 0 Reach.start (Nat.le_refl _)
  rw [h.done he]
  exact ⟨h, he⟩
theorem scan_bound (xs : List UInt8) : (scanOf xs).2 ≤ xs.length ∧ 8 * (scanOf xs).1.length ≤ (scanOf xs).2 := (scan_reach xs).1.bound

theorem be_last : ∀ n v, be (n + 1) v = be n (v / 256) ++ [UInt8.ofNat v]
  | 0, v => by simp [be]
  | n + 1, v => by
    have ih := be_last n v
    rw [be, ih, be]
    simp only [List.cons_append]
    rw [Nat.div_div_eq_div_mul, Nat.pow_succ, Nat.mul_comm (256 ^ n) 256]
theorem rdbe_be : ∀ n v, v < 256 ^ n → rdbe (be n v) = v
  | 0, v, h => by simp at h; subst h; rfl
  | n + 1, v, h => by
    have h2 : v / 256 < 256 ^ n := by rw [Nat.div_lt_iff_lt_mul (by decide)]; rwa [Nat.pow_succ] at h
    rw [be_last, rdbe_snoc, rdbe_be n _ h2]
    simp; omega
theorem be_rdbe : ∀ (n : Nat) (l : List UInt8), l.length = n → be n (rdbe l) = l
  | 0, l, h => by rw [List.eq_nil_of_length_eq_zero h]; rfl
  | n + 1, l, h => by
    rcases List.eq_nil_or_concat l with rfl | ⟨l', x, rfl⟩
    · simp at h
    · rw [List.concat_eq_append] at h ⊢
      have hx := x.toNat_lt
      rw [rdbe_snoc, be_last, show (rdbe l' * 256 + x.toNat) / 256 = rdbe l' by omega, be_rdbe n l' (by simpa using h)]
      congr 2
      apply UInt8.toNat_inj.1
      simp
theorem lt32 {l : List UInt8} (h : l.length = 4) : rdbe l < 4294967296 := by have := rdbe_lt l; rw [h] at this; exact this

/-- the bytes of a record that is there are those that Put writes -/
theorem next_enc {xs : List UInt8} {a : Nat} (h : nextErr xs a = 0) : (xs.drop a).take (8 + recLen xs a) = enc (recBody xs a) := by
  obtain ⟨h1, h2, h3⟩ := next_ok h
  have hb := body_length h
  have e1 : (xs.drop a).take (8 + recLen xs a) = (xs.drop a).take 4 ++ (((xs.drop a).drop 4).take 4 ++ (((xs.drop a).drop 8).take (recLen xs a))) := by
    rw [show 8 + recLen xs a = 4 + (4 + recLen xs a) by omega, List.take_add, List.take_add]
    simp only [List.drop_drop]
  rw [e1]
  unfold enc
  rw [hb]
  have hh : be 4 (recLen xs a) = (xs.drop a).take 4 := be_rdbe 4 _ (by simp; omega)
  rw [hh, h3]
  have hs : be 4 (recSum xs a) = (xs.drop (a + 4)).take 4 := be_rdbe 4 _ (by simp; omega)
  rw [hs]
  simp only [List.drop_drop]
  rfl
theorem enc_parts (r post : List UInt8) : ((enc r ++ post).take 4) = be 4 r.length ∧ ((enc r ++ post).drop 4).take 4 = be 4 (CRC.crc 0 (nat8 (be 4 r.length ++ r))) ∧ (enc r ++ post).drop 8 = r ++ post := by
  unfold enc
  have l1 := be_length 4 r.length
  have l2 := be_length 4 (CRC.crc 0 (nat8 (be 4 r.length ++ r)))
  generalize be 4 (CRC.crc 0 (nat8 (be 4 r.length ++ r))) = S at *
  generalize be 4 r.length = H at *
  refine ⟨?_, ?_, ?_⟩
  · rw [List.append_assoc, List.take_append_of_le_length (by omega), List.take_of_length_le (by omega)]
  · rw [List.append_assoc, List.drop_append_of_le_length (by omega), List.drop_of_length_le (by omega), List.nil_append, List.append_assoc, List.take_append_of_le_length (by omega), List.take_of_length_le (by omega)]
  · rw [List.append_assoc, show (8 : Nat) = 4 + 4 from rfl, ← List.drop_drop, List.drop_left' l1, List.append_assoc, List.drop_left' l2]
/-- what Put writes is read back -/
theorem enc_next {xs r post : List UInt8} {a : Nat} (h : xs.drop a = enc r ++ post) (hr : r.length ≤ 1048576) : nextErr xs a = 0 ∧ recLen xs a = r.length ∧ recBody xs a = r := by
  obtain ⟨p1, p2, p3⟩ := enc_parts r post
  have hlen : xs.length - a = r.length + 8 + post.length := by rw [← List.length_drop, h, List.length_append, enc_length]
  have hL : recLen xs a = r.length := by unfold recLen; rw [h, p1]; exact rdbe_be 4 _ (by omega)
  have hB : recBody xs a = r := by
    unfold recBody
    rw [hL, ← List.drop_drop, h, p3, List.take_append_of_le_length (Nat.le_refl _), List.take_of_length_le (Nat.le_refl _)]
  have hS : recSum xs a = CRC.crc 0 (nat8 (be 4 r.length ++ r)) := by unfold recSum; rw [← List.drop_drop, h, p2]; exact rdbe_be 4 _ (CRC.crc_lt _ _)
  refine ⟨?_, hL, hB⟩
  unfold nextErr
  rw [if_neg (by omega), if_neg (by omega), if_neg (by omega), if_neg (by omega), if_pos]
  rw [hB, hS, h, p1]
/-- a record that is cut off is none -/
theorem cut_next {xs r : List UInt8} {a q : Nat} (h : xs.drop a = (enc r).take q) (hq : q < r.length + 8) (hr : r.length ≤ 1048576) : nextErr xs a ≠ 0 := by
  have hlen : xs.length - a = q := by rw [← List.length_drop, h, List.length_take, enc_length]; omega
  unfold nextErr
  split
  · decide
  split
  · decide
  · have hL : recLen xs a = r.length := by
      unfold recLen
      have := (enc_parts r []).1
      rw [List.append_nil] at this
      rw [h, List.take_take, Nat.min_eq_left (by omega), this]
      exact rdbe_be 4 _ (by omega)
    rw [if_neg (by omega), if_pos (by omega)]
    decide
theorem Reach.enc {xs : List UInt8} {ls : List (List UInt8)} {a : Nat} (h : Reach xs ls a) : xs.take a = (ls.map enc).flatten ∧ ∀ l ∈ ls, l.length ≤ 1048576 := by
  induction h with
  | start => simp
  | step h he ih =>
    rename_i ls a
    have hn := next_ok he
    refine ⟨?_, ?_⟩
    · rw [show a + 8 + recLen xs a = a + (8 + recLen xs a) by omega, List.take_add, ih.1, next_enc he]; simp
    · intro l hl
      rw [List.mem_append] at hl
      rcases hl with hl | hl
      · exact ih.2 l hl
      · simp at hl; subst hl; rw [body_length he]; exact hn.2.1
end Go.Proofs.Ythcajaadbdiggaa
