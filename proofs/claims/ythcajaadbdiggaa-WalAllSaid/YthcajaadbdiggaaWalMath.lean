/- Plain facts on logs: what a file says, how a file is written. -/
import Derived.Test.YthcajaadbdiggaaScanMath
import Derived.Test.YthcajaadbdiggaaDiskPower
import Derived.Test.YthcajaadbdiggaaDiskR
namespace Go.Proofs.Ythcajaadbdiggaa

/-- what the records behind the first say, "whole" being told or not: the log's records, whether the file is whole, whether a record stopped it -/
def walkR : List (List UInt8) → Bool → List (List UInt8) × Bool × Bool
  | [], wh => ([], wh, false)
  | r :: rs, wh => if r.head? = some 82 then (r.tail :: (walkR rs wh).1, (walkR rs wh).2) else if wh = true then ([], true, true) else if r = [69] then walkR rs true else ([], false, true)
/-- what a file of these records says -/
def lookL : List (List UInt8) → Bool → Option (Nat × List (List UInt8) × Bool)
  | [], _ => none
  | g :: rs, sp => if g.length = 9 ∧ g.head? = some 71 ∧ 0 < rdbe ((g.drop 1).take 8) ∧ rdbe ((g.drop 1).take 8) < 4611686018427387904 then
      (if (walkR rs false).2.1 = true then some (rdbe ((g.drop 1).take 8), (walkR rs false).1, (walkR rs false).2.2 || sp) else none) else none
def lookOf (xs : List UInt8) : Option (Nat × List (List UInt8) × Bool) := lookL (scanOf xs).1 (decide ((scanOf xs).2 < xs.length))

/-- a log -/
structure WS where
  f : Int
  gen : Nat
  recs : List (List UInt8)
  bytes : Nat
  lives : Nat
  done : Bool

def recR (r : List UInt8) : List UInt8 := enc (82 :: r)
def body (gen : Nat) (recs : List (List UInt8)) : List UInt8 := enc (71 :: be 8 gen) ++ (recs.map recR).flatten
def fileOf (gen : Nat) (recs : List (List UInt8)) : List UInt8 := body gen recs ++ enc [69]

def wOver (D : DS) (W : WS) : Bool := W.done || decide (D.lives ≠ W.lives)
/-- an error of the disk is noted -/
def WS.fails (W : WS) (e : Int) : WS := { W with done := W.done || decide (e ≠ 0) }
def wApp (D : DS) (W : WS) (r : List UInt8) : DS × WS × Int :=
  if wOver D W then (D, W, 6)
  else if 1048575 < r.length then (D, W, 3)
  else if (D.appR W.f (recR r)).2 ≠ 0 then ((D.appR W.f (recR r)).1, { W with done := true }, (D.appR W.f (recR r)).2)
  else ((D.appR W.f (recR r)).1, { W with recs := W.recs ++ [r], bytes := W.bytes + (r.length + 9) }, 0)
def wSync (D : DS) (W : WS) : DS × WS × Int :=
  if wOver D W then (D, W, 6) else ((D.syncR W.f).1, W.fails (D.syncR W.f).2, (D.syncR W.f).2)
def otherF (f : Int) : Int := if f = 0 then 1 else 0
def tooLong (l : List (List UInt8)) : Bool := l.any fun r => decide (1048575 < r.length)
def wRew (D : DS) (W : WS) (l : List (List UInt8)) : DS × WS × Int :=
  if wOver D W then (D, W, 6)
  else if tooLong l then (D, W, 3)
  else if 4611686018427387904 ≤ W.gen + 1 then (D, W, 8)
  else
    let C := D.clearR (otherF W.f)
    if C.2 ≠ 0 then (C.1, { W with done := true }, C.2) else
    let A := C.1.appR (otherF W.f) (fileOf (W.gen + 1) l)
    if A.2 ≠ 0 then (A.1, { W with done := true }, A.2) else
    let S := A.1.syncR (otherF W.f)
    if S.2 ≠ 0 then (S.1, { W with done := true }, S.2) else
    (S.1, { W with f := otherF W.f, gen := W.gen + 1, recs := l, bytes := (fileOf (W.gen + 1) l).length }, 0)
/-- which file is read, and what it says -/
def wPick (D : DS) : Int × Nat × List (List UInt8) × Nat × Bool :=
  match lookOf (D.b 0), lookOf (D.b 1) with
  | none, none => (-1, 0, [], 0, true)
  | some x, none => (0, x.1, x.2.1, (D.b 0).length, x.2.2)
  | none, some y => (1, y.1, y.2.1, (D.b 1).length, y.2.2)
  | some x, some y => if x.1 < y.1 then (1, y.1, y.2.1, (D.b 1).length, y.2.2) else (0, x.1, x.2.1, (D.b 0).length, x.2.2)
def wFirst (D : DS) : WS := { f := (wPick D).1, gen := (wPick D).2.1, recs := (wPick D).2.2.1, bytes := (wPick D).2.2.2.1, lives := D.lives, done := false }
def wOpen (D : DS) : DS × Option WS × Int :=
  if D.off then (D, none, 6)
  else if (wPick D).2.2.2.2 then
    (if (wRew D (wFirst D) (wFirst D).recs).2.2 ≠ 0 then ((wRew D (wFirst D) (wFirst D).recs).1, none, (wRew D (wFirst D) (wFirst D).recs).2.2)
     else ((wRew D (wFirst D) (wFirst D).recs).1, some (wRew D (wFirst D) (wFirst D).recs).2.1, 0))
  else (D, some (wFirst D), 0)

theorem recR_length (r : List UInt8) : (recR r).length = r.length + 9 := by simp [recR, enc_length]
theorem recs_length : ∀ l : List (List UInt8), (l.map recR).flatten.length = l.flatten.length + 9 * l.length
  | [] => rfl
  | r :: rs => by
    show (recR r ++ (rs.map recR).flatten).length = _
    rw [List.length_append, recR_length, recs_length rs, List.flatten_cons, List.length_append, List.length_cons]; omega
theorem fileOf_length (g : Nat) (l : List (List UInt8)) : (fileOf g l).length = l.flatten.length + 9 * l.length + 26 := by
  simp only [fileOf, body, List.length_append, enc_length, List.length_cons, be_length, List.length_nil]
  rw [show ((l.map recR).flatten).length = _ from recs_length l]; omega

/-! ### scanning what was written -/
theorem nextErr_drop {xs : List UInt8} {a : Nat} (h : a ≤ xs.length) : nextErr xs a = nextErr (xs.drop a) 0 := by
  have e1 : recLen xs a = recLen (xs.drop a) 0 := by simp [recLen]
  have e2 : recSum xs a = recSum (xs.drop a) 0 := by simp [recSum, List.drop_drop]
  have e3 : recBody xs a = recBody (xs.drop a) 0 := by simp [recBody, List.drop_drop, recLen]
  unfold nextErr
  have h1 : ¬ xs.length < a := by omega
  have h2 : ¬ (xs.drop a).length < 0 := Nat.not_lt_zero _
  rw [e1, e2, e3, if_neg h1, if_neg h2, List.length_drop, List.drop_zero, Nat.sub_zero]
theorem scan_encs {ls : List (List UInt8)} {tail : List UInt8} (hm : ∀ l ∈ ls, l.length ≤ 1048576) (ht : nextErr tail 0 ≠ 0) :
    scanOf ((ls.map enc).flatten ++ tail) = (ls, (ls.map enc).flatten.length) := by
  have key : ∀ (done todo : List (List UInt8)), done ++ todo = ls → Reach ((ls.map enc).flatten ++ tail) done (done.map enc).flatten.length → Reach ((ls.map enc).flatten ++ tail) ls (ls.map enc).flatten.length := by
    intro done todo
    induction todo generalizing done with
    | nil => intro e h; rw [List.append_nil] at e; subst e; exact h
    | cons r rs ih =>
      intro e h
      have hd : ((ls.map enc).flatten ++ tail).drop (done.map enc).flatten.length = enc r ++ ((rs.map enc).flatten ++ tail) := by
        rw [← e]; simp [List.drop_left]
      obtain ⟨h1, h2, h3⟩ := enc_next hd (hm r (by rw [← e]; simp))
      have h4 := h.step h1
      rw [h2, h3] at h4
      refine ih (done ++ [r]) (by rw [← e]; simp) ?_
      have e5 : ((done ++ [r]).map enc).flatten.length = (done.map enc).flatten.length + 8 + r.length := by simp [enc_length]; omega
      rw [e5]
      exact h4
  have h := key [] ls rfl .start
  refine h.done ?_
  rw [nextErr_drop (by simp), List.drop_left]
  exact ht
theorem nextErr_nil : nextErr [] 0 ≠ 0 := by decide
theorem walkR_recs (l : List (List UInt8)) (rs : List (List UInt8)) (wh : Bool) : walkR (l.map (fun r => 82 :: r) ++ rs) wh = (l ++ (walkR rs wh).1, (walkR rs wh).2) := by
  induction l with
  | nil => rfl
  | cons r l ih => simp [walkR, ih]
theorem gen_rd {g : Nat} (h : g < 18446744073709551616) : rdbe (((71 :: be 8 g : List UInt8).drop 1).take 8) = g := by
  rw [show ((71 :: be 8 g : List UInt8).drop 1).take 8 = be 8 g from by
    rw [List.drop_one, List.tail_cons]; exact List.take_of_length_le (Nat.le_of_eq (be_length 8 g))]
  exact rdbe_be 8 g (by simpa using h)
theorem file_encs (g : Nat) (l more : List (List UInt8)) : fileOf g l ++ (more.map recR).flatten = (((71 :: be 8 g) :: (l.map (fun r => 82 :: r) ++ [69] :: more.map (fun r => 82 :: r))).map enc).flatten := by
  have h : recR = fun r => enc (82 :: r) := rfl
  simp [fileOf, body, h, Function.comp_def]
/-- what a file says that was written, with more records behind it, and with a tail that is no record -/
theorem look_file {g : Nat} {l more : List (List UInt8)} {tail : List UInt8} (hg : 0 < g) (hg2 : g < 4611686018427387904) (hl : tooLong l = false) (hm : tooLong more = false) (ht : nextErr tail 0 ≠ 0) :
    lookOf (fileOf g l ++ (more.map recR).flatten ++ tail) = some (g, l ++ more, decide (0 < tail.length)) := by
  have hll : ∀ r ∈ l, r.length ≤ 1048575 := fun r hr => by
    have := List.any_eq_false.1 hl r hr; simpa using this
  have hmm : ∀ r ∈ more, r.length ≤ 1048575 := fun r hr => by
    have := List.any_eq_false.1 hm r hr; simpa using this
  unfold lookOf
  rw [file_encs, scan_encs (by
    intro x hx
    simp only [List.mem_cons, List.mem_append, List.mem_map] at hx
    rcases hx with rfl | ⟨r, hr, rfl⟩ | rfl | ⟨r, hr, rfl⟩
    · simp [be_length]
    · have := hll r hr; simp; omega
    · simp
    · have := hmm r hr; simp; omega) ht]
  simp only [lookL]
  rw [if_pos ⟨by simp [be_length], rfl, by rw [gen_rd (by omega)]; exact hg, by rw [gen_rd (by omega)]; exact hg2⟩, walkR_recs]
  have e2 : walkR ([69] :: more.map (fun r => 82 :: r)) false = (more, true, false) := by
    have := walkR_recs more [] true
    rw [List.append_nil] at this
    simp [walkR, this]
  rw [e2]
  simp only
  rw [if_pos trivial, gen_rd (by omega)]
  congr 3
  simp only [Bool.false_or, decide_eq_decide, List.length_append]
  omega
end Go.Proofs.Ythcajaadbdiggaa
