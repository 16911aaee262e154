/- Plain facts on records: how they are written, read, scanned. -/
import Derived.Test.YthcajaadbdiggaaMath
import Derived.Test.YthcajaadbdiggaaBase
import Derived.Test.YthcajaadbdiggaaBits
namespace Go.Proofs.Ythcajaadbdiggaa

/-- a record -/
def enc (r : List UInt8) : List UInt8 := be 4 r.length ++ (be 4 (CRC.crc 0 (nat8 (be 4 r.length ++ r))) ++ r)
def recLen (xs : List UInt8) (a : Nat) : Nat := rdbe ((xs.drop a).take 4)
def recSum (xs : List UInt8) (a : Nat) : Nat := rdbe ((xs.drop (a + 4)).take 4)
def recBody (xs : List UInt8) (a : Nat) : List UInt8 := (xs.drop (a + 8)).take (recLen xs a)
/-- why there is no record at a; 0: there is one -/
def nextErr (xs : List UInt8) (a : Nat) : Nat :=
  if xs.length < a then 1
  else if xs.length - a < 8 then 2
  else if 1048576 < recLen xs a then 3
  else if xs.length - a - 8 < recLen xs a then 2
  else if CRC.crc 0 (nat8 ((xs.drop a).take 4 ++ recBody xs a)) = recSum xs a then 0 else 4

/-- what is read from a on, in at most k records -/
def scanF (xs : List UInt8) : Nat → Nat → List (List UInt8) × Nat
  | 0, a => ([], a)
  | k + 1, a => if nextErr xs a = 0 then (recBody xs a :: (scanF xs k (a + 8 + recLen xs a)).1, (scanF xs k (a + 8 + recLen xs a)).2) else ([], a)
def scanOf (xs : List UInt8) : List (List UInt8) × Nat := scanF xs xs.length 0

inductive Reach (xs : List UInt8) : List (List UInt8) → Nat → Prop
  | start : Reach xs [] 0
  | step {ls : List (List UInt8)} {a : Nat} : Reach xs ls a → nextErr xs a = 0 → Reach xs (ls ++ [recBody xs a]) (a + 8 + recLen xs a)

theorem next_ok {xs : List UInt8} {a : Nat} (h : nextErr xs a = 0) : a + 8 + recLen xs a ≤ xs.length ∧ recLen xs a ≤ 1048576 ∧ CRC.crc 0 (nat8 ((xs.drop a).take 4 ++ recBody xs a)) = recSum xs a := by
  unfold nextErr at h
  split at h
  · cases h
  split at h
  · cases h
  split at h
  · cases h
  split at h
  · cases h
  split at h
  · rename_i h1 h2 h3 h4 h5; exact ⟨by omega, by omega, h5⟩
  · cases h

theorem body_length {xs : List UInt8} {a : Nat} (h : nextErr xs a = 0) : (recBody xs a).length = recLen xs a := by
  have := next_ok h
  simp [recBody]; omega

theorem Reach.bound {xs : List UInt8} {ls : List (List UInt8)} {a : Nat} (h : Reach xs ls a) : a ≤ xs.length ∧ 8 * ls.length ≤ a := by
  induction h with
  | start => simp
  | step h he ih => have := next_ok he; simp; omega

theorem Reach.scan {xs : List UInt8} {ls : List (List UInt8)} {a : Nat} (h : Reach xs ls a) : ∀ k, ls.length ≤ k → scanF xs k 0 = (ls ++ (scanF xs (k - ls.length) a).1, (scanF xs (k - ls.length) a).2) := by
  induction h with
  | start => intro k _; simp
  | step h he ih =>
    rename_i ls a
    intro k hk
    simp at hk
    rw [ih k (by omega)]
    obtain ⟨q, hq⟩ : ∃ q, k - ls.length = q + 1 := ⟨k - ls.length - 1, by omega⟩
    rw [hq, show k - (ls ++ [recBody xs a]).length = q by simp; omega]
    simp [scanF, he]

theorem scan_stop {xs : List UInt8} {a : Nat} (h : nextErr xs a ≠ 0) (k : Nat) : scanF xs k a = ([], a) := by
  cases k with
  | zero => rfl
  | succ k => simp [scanF, h]

theorem Reach.done {xs : List UInt8} {ls : List (List UInt8)} {a : Nat} (h : Reach xs ls a) (he : nextErr xs a ≠ 0) : scanOf xs = (ls, a) := by
  have hb := h.bound
  unfold scanOf
  rw [h.scan xs.length (by omega), scan_stop he]; simp

theorem enc_length (r : List UInt8) : (enc r).length = r.length + 8 := by simp [enc, be_length]; omega
end Go.Proofs.Ythcajaadbdiggaa
