/- Plain facts on CRC-32C over numbers: linear, injective, by parts; a burst is told. -/
namespace Go.Proofs.Ythcajaadbdiggaa.CRC

/-- One shift of the register. -/
def stp (c : Nat) : Nat := (c / 2) ^^^ (if c % 2 = 1 then 2197175160 else 0)

def stpN : Nat → Nat → Nat
  | 0, c => c
  | n + 1, c => stpN n (stp c)

def byt (c x : Nat) : Nat := stpN 8 (c ^^^ x)

def raw (c : Nat) (l : List Nat) : Nat := l.foldl byt c

def crc (c : Nat) (l : List Nat) : Nat := 4294967295 - raw (4294967295 - c) l

theorem xor_half (a b : Nat) : (a ^^^ b) / 2 = a / 2 ^^^ b / 2 := by
  have h := Nat.xor_div_two_pow (a := a) (b := b) (n := 1)
  simpa using h

theorem xor_mod2 (a b : Nat) : (a ^^^ b) % 2 = (a + b) % 2 := by
  have h := Nat.xor_mod_two_eq_one (a := a) (b := b)
  omega

theorem stp_xor (a b : Nat) : stp (a ^^^ b) = stp a ^^^ stp b := by
  unfold stp
  rw [xor_half, xor_mod2]
  rcases Nat.mod_two_eq_zero_or_one a with ha | ha <;> rcases Nat.mod_two_eq_zero_or_one b with hb | hb
  · rw [if_neg (by omega), if_neg (by omega), if_neg (by omega)]; simp
  · rw [if_pos (by omega), if_neg (by omega), if_pos (by omega)]; simp [Nat.xor_assoc]
  · rw [if_pos (by omega), if_pos (by omega), if_neg (by omega)]
    simp only [Nat.xor_zero]
    rw [Nat.xor_assoc, Nat.xor_comm (b / 2), ← Nat.xor_assoc]
  · rw [if_neg (by omega), if_pos (by omega), if_pos (by omega)]
    simp only [Nat.xor_zero]
    rw [Nat.xor_assoc, Nat.xor_comm (2197175160) _, Nat.xor_assoc, Nat.xor_self, Nat.xor_zero]

theorem stp_zero : stp 0 = 0 := by decide
theorem stp_lt {c : Nat} (h : c < 4294967296) : stp c < 4294967296 := by
  unfold stp
  have h2 : (if c % 2 = 1 then 2197175160 else 0) < 2 ^ 32 := by split <;> decide
  exact Nat.xor_lt_two_pow (n := 32) (by omega) h2

theorem stp_eq_zero {c : Nat} (h : c < 4294967296) (h0 : stp c = 0) : c = 0 := by
  unfold stp at h0
  split at h0
  · have e : c / 2 = 2197175160 := by
      have := congrArg (fun x => x ^^^ 2197175160) h0
      simpa [Nat.xor_assoc] using this
    omega
  · simp at h0; omega

theorem stpN_xor (n : Nat) : ∀ a b, stpN n (a ^^^ b) = stpN n a ^^^ stpN n b := by
  induction n with
  | zero => intro a b; rfl
  | succ n ih => intro a b; simp only [stpN]; rw [stp_xor, ih]

theorem stpN_zero (n : Nat) : stpN n 0 = 0 := by
  induction n with
  | zero => rfl
  | succ n ih => simp only [stpN]; rw [stp_zero, ih]

theorem stpN_lt (n : Nat) : ∀ {c : Nat}, c < 4294967296 → stpN n c < 4294967296 := by
  induction n with
  | zero => intro c h; exact h
  | succ n ih => intro c h; exact ih (stp_lt h)

theorem stpN_eq_zero (n : Nat) : ∀ {c : Nat}, c < 4294967296 → stpN n c = 0 → c = 0 := by
  induction n with
  | zero => intro c _ h; exact h
  | succ n ih => intro c h h0; exact stp_eq_zero h (ih (stp_lt h) h0)

theorem stpN_add (m n : Nat) : ∀ c, stpN (m + n) c = stpN n (stpN m c) := by
  induction m with
  | zero => intro c; simp [stpN]
  | succ m ih => intro c; rw [Nat.succ_add]; simp only [stpN]; exact ih _

theorem stpN_mul (n : Nat) : ∀ m, stpN n (m * 2 ^ n) = m := by
  induction n with
  | zero => intro m; simp [stpN]
  | succ n ih =>
    intro m
    simp only [stpN]
    have : stp (m * 2 ^ (n + 1)) = m * 2 ^ n := by
      unfold stp
      rw [Nat.pow_succ, ← Nat.mul_assoc, Nat.mul_mod_left, if_neg (by decide), Nat.xor_zero, Nat.mul_div_cancel _ (by decide)]
    rw [this, ih]

theorem byt_lt {c x : Nat} (hc : c < 4294967296) (hx : x < 256) : byt c x < 4294967296 :=
  stpN_lt 8 (Nat.xor_lt_two_pow (n := 32) hc (by omega))

theorem raw_lt : ∀ (l : List Nat) {c : Nat}, c < 4294967296 → (∀ x ∈ l, x < 256) → raw c l < 4294967296
  | [], _, h, _ => h
  | x :: l, _, h, hl => raw_lt l (byt_lt h (hl x (by simp))) (fun y hy => hl y (by simp [hy]))

theorem raw_append (c : Nat) (l m : List Nat) : raw c (l ++ m) = raw (raw c l) m := by simp [raw]

theorem xor4 (a b c d : Nat) : (a ^^^ b) ^^^ (c ^^^ d) = (a ^^^ c) ^^^ (b ^^^ d) := by
  rw [Nat.xor_assoc, Nat.xor_assoc, ← Nat.xor_assoc b, Nat.xor_comm b c, Nat.xor_assoc c]

theorem byt_xor (a b x y : Nat) : byt (a ^^^ b) (x ^^^ y) = byt a x ^^^ byt b y := by
  unfold byt; rw [xor4, stpN_xor]

theorem raw_xor : ∀ (l m : List Nat) (a b : Nat), l.length = m.length → raw (a ^^^ b) (List.zipWith (· ^^^ ·) l m) = raw a l ^^^ raw b m
  | [], [], _, _, _ => rfl
  | x :: l, y :: m, a, b, h => by
    show raw (byt (a ^^^ b) (x ^^^ y)) _ = _
    rw [byt_xor]; exact raw_xor l m _ _ (by simpa using h)

theorem inv_eq {r : Nat} (h : r < 4294967296) : 4294967295 - r = 4294967295 ^^^ r := by
  have h1 : ((4294967295 : Nat) ^^^ r) = 2 ^ 32 - (r + 1) := by
    apply Nat.eq_of_testBit_eq
    intro i
    rw [Nat.testBit_xor, Nat.testBit_two_pow_sub_succ (by omega)]
    rw [show (4294967295 : Nat) = 2 ^ 32 - 1 from rfl, Nat.testBit_two_pow_sub_one]
    by_cases hi : i < 32
    · simp [hi]
    · simp only [hi, decide_false, Bool.false_bne, Bool.false_and]
      have h32 : r < 2 ^ i := Nat.lt_of_lt_of_le h (show 2 ^ 32 ≤ 2 ^ i from Nat.pow_le_pow_right (by decide) (Nat.le_of_not_lt hi))
      exact Nat.testBit_lt_two_pow h32
  rw [h1]; omega

theorem crc_eq {c : Nat} (hc : c < 4294967296) (l : List Nat) (hl : ∀ x ∈ l, x < 256) : crc c l = 4294967295 ^^^ raw (4294967295 ^^^ c) l := by
  unfold crc
  rw [inv_eq (raw_lt l (by omega) hl), inv_eq hc]

theorem crc_lt (c : Nat) (l : List Nat) : crc c l < 4294967296 := by unfold crc; omega

theorem crc_nil {c : Nat} (hc : c < 4294967296) : crc c [] = c := by unfold crc raw; simp; omega

theorem crc_append {c : Nat} (_hc : c < 4294967296) (l m : List Nat) (hl : ∀ x ∈ l, x < 256) : crc c (l ++ m) = crc (crc c l) m := by
  unfold crc
  rw [raw_append]
  have := raw_lt l (c := 4294967295 - c) (by omega) hl
  rw [show 4294967295 - (4294967295 - raw (4294967295 - c) l) = raw (4294967295 - c) l by omega]

/-- three texts of one length -/
theorem crc_lines (a b c : List Nat) (h1 : a.length = b.length) (h2 : a.length = c.length) (ha : ∀ x ∈ a, x < 256) (hb : ∀ x ∈ b, x < 256) (hc : ∀ x ∈ c, x < 256)
    (habc : ∀ x ∈ List.zipWith (· ^^^ ·) (List.zipWith (· ^^^ ·) a b) c, x < 256) :
    crc 0 (List.zipWith (· ^^^ ·) (List.zipWith (· ^^^ ·) a b) c) = crc 0 a ^^^ crc 0 b ^^^ crc 0 c := by
  rw [crc_eq (by decide) _ habc, crc_eq (by decide) _ ha, crc_eq (by decide) _ hb, crc_eq (by decide) _ hc]
  simp only [Nat.xor_zero]
  have e : (4294967295 : Nat) = (4294967295 ^^^ 4294967295) ^^^ 4294967295 := by decide
  conv => lhs; rw [show raw 4294967295 = raw ((4294967295 ^^^ 4294967295) ^^^ 4294967295) from by rw [← e]]
  rw [raw_xor _ _ _ _ (by simp [h1]; omega), raw_xor _ _ _ _ h1]
  generalize raw 4294967295 a = A
  generalize raw 4294967295 b = B
  generalize raw 4294967295 c = C
  generalize (4294967295 : Nat) = M
  rw [xor4 M A M B, Nat.xor_self, Nat.zero_xor, ← Nat.xor_assoc (A ^^^ B), Nat.xor_comm (A ^^^ B) M, Nat.xor_assoc M]

/-- the bytes of a number, the least first -/
def le : Nat → Nat → List Nat
  | 0, _ => []
  | k + 1, m => m % 256 :: le k (m / 256)

theorem le_length (k : Nat) : ∀ m, (le k m).length = k := by
  induction k with
  | zero => intro m; rfl
  | succ k ih => intro m; simp [le, ih]

theorem le_lt (k : Nat) : ∀ m, ∀ x ∈ le k m, x < 256 := by
  induction k with
  | zero => intro m x hx; simp [le] at hx
  | succ k ih =>
    intro m x hx
    simp [le] at hx
    rcases hx with rfl | hx
    · omega
    · exact ih _ x hx

theorem le_get (k : Nat) : ∀ m j, j < k → (le k m)[j]? = some (m / 256 ^ j % 256) := by
  induction k with
  | zero => intro m j h; omega
  | succ k ih =>
    intro m j h
    cases j with
    | zero => simp [le]
    | succ j => simp [le]; rw [ih _ _ (by omega), Nat.pow_succ', Nat.div_div_eq_div_mul]

theorem split256 (m : Nat) : m = (m % 256) ^^^ (m / 256 * 2 ^ 8) := by
  apply Nat.eq_of_testBit_eq
  intro i
  rw [Nat.testBit_xor, show (256 : Nat) = 2 ^ 8 from rfl, Nat.testBit_mod_two_pow, Nat.testBit_mul_two_pow, ← Nat.shiftRight_eq_div_pow]
  by_cases h : i < 8
  · simp [h, show ¬ 8 ≤ i by omega]
  · have : 8 ≤ i := by omega
    simp [h, this]

theorem raw_le (k : Nat) : ∀ c m, stpN (8 * k) (c ^^^ m) = raw c (le k m) ^^^ (m / 256 ^ k) := by
  induction k with
  | zero => intro c m; simp [stpN, raw, le]
  | succ k ih =>
    intro c m
    rw [show 8 * (k + 1) = 8 + 8 * k by omega, stpN_add]
    have : stpN 8 (c ^^^ m) = byt c (m % 256) ^^^ (m / 256) := by
      conv => lhs; rw [split256 m, ← Nat.xor_assoc, stpN_xor, stpN_mul]
      rfl
    rw [this, ih, Nat.div_div_eq_div_mul, ← Nat.pow_succ']
    rfl

/-- a burst is told -/
theorem burst (k s mask : Nat) (hm : mask < 4294967296) (hs : s + 32 ≤ 8 * k) : raw 0 (le k (mask * 2 ^ s)) = 0 ↔ mask = 0 := by
  have h := raw_le k 0 (mask * 2 ^ s)
  have hz : mask * 2 ^ s / 256 ^ k = 0 := by
    apply Nat.div_eq_of_lt
    rw [show (256 : Nat) = 2 ^ 8 from rfl, ← Nat.pow_mul]
    calc mask * 2 ^ s < 2 ^ 32 * 2 ^ s := Nat.mul_lt_mul_of_pos_right (by omega) (Nat.pow_pos (by decide))
      _ = 2 ^ (32 + s) := by rw [Nat.pow_add]
      _ ≤ 2 ^ (8 * k) := Nat.pow_le_pow_right (by decide) (by omega)
  rw [hz, Nat.xor_zero, Nat.zero_xor, show 8 * k = s + (8 * k - s) by omega, stpN_add, stpN_mul] at h
  rw [← h]
  constructor
  · exact stpN_eq_zero _ hm
  · rintro rfl; exact stpN_zero _

theorem crc_burst (b : List Nat) (s mask : Nat) (hm : mask < 4294967296) (hs : s + 32 ≤ 8 * b.length) (hb : ∀ x ∈ b, x < 256)
    (hc : ∀ x ∈ List.zipWith (· ^^^ ·) b (le b.length (mask * 2 ^ s)), x < 256) :
    crc 0 b = crc 0 (List.zipWith (· ^^^ ·) b (le b.length (mask * 2 ^ s))) ↔ mask = 0 := by
  rw [crc_eq (by decide) _ hb, crc_eq (by decide) _ hc, ← burst b.length s mask hm hs]
  simp only [Nat.xor_zero]
  have e := raw_xor b (le b.length (mask * 2 ^ s)) 4294967295 0 (by rw [le_length])
  rw [Nat.xor_zero] at e
  rw [e]
  generalize raw 4294967295 b = A
  generalize raw 0 (le b.length (mask * 2 ^ s)) = B
  constructor
  · intro h
    have h1 := congrArg (fun x => A ^^^ (4294967295 ^^^ x)) h
    simp only [← Nat.xor_assoc, Nat.xor_self, Nat.zero_xor] at h1
    exact h1.symm
  · rintro rfl; simp

/-- the register goes on injectively -/
theorem raw_inj : ∀ (l : List Nat) (a b : Nat), a < 4294967296 → b < 4294967296 → (∀ x ∈ l, x < 256) → raw a l = raw b l → a = b
  | [], _, _, _, _, _, h => h
  | x :: l, a, b, ha, hb, hl, h => by
    have e := raw_inj l (byt a x) (byt b x) (byt_lt ha (hl x (by simp))) (byt_lt hb (hl x (by simp))) (fun y hy => hl y (by simp [hy])) h
    have e2 : stpN 8 (a ^^^ b) = 0 := by
      have := byt_xor a b x x
      rw [e, Nat.xor_self, Nat.xor_self] at this
      simpa [byt] using this
    have e3 := stpN_eq_zero 8 (Nat.xor_lt_two_pow (n := 32) ha hb) e2
    have h1 := congrArg (fun z => z ^^^ b) e3
    simpa [Nat.xor_assoc] using h1

theorem crc_zeros (n : Nat) : crc 0 (List.replicate (n + 1) 0) ≠ crc 0 (List.replicate n 0) := by
  intro h
  have hz : ∀ k, ∀ x ∈ List.replicate k 0, x < 256 := by intro k x hx; simp at hx; omega
  unfold crc at h
  have h1 := raw_lt (List.replicate (n + 1) 0) (c := 4294967295 - 0) (by decide) (hz _)
  have h2 := raw_lt (List.replicate n 0) (c := 4294967295 - 0) (by decide) (hz _)
  have h3 : raw (4294967295 - 0) (List.replicate (n + 1) 0) = raw (4294967295 - 0) (List.replicate n 0) := by omega
  have h4 : raw (byt 4294967295 0) (List.replicate n 0) = raw 4294967295 (List.replicate n 0) := h3
  have := raw_inj _ _ _ (byt_lt (by decide) (by decide)) (by decide) (hz n) h4
  revert this; decide +kernel

/-- one more bit of a number -/
theorem mod_succ (x i : Nat) : x % 2 ^ (i + 1) = x % 2 ^ i + (x / 2 ^ i % 2) * 2 ^ i := by
  rw [Nat.pow_succ, Nat.mod_mul]; rw [Nat.mul_comm (2 ^ i)]

theorem xor_bit (a b i : Nat) : (a ^^^ b) / 2 ^ i % 2 = (a / 2 ^ i + b / 2 ^ i) % 2 := by
  rw [Nat.xor_div_two_pow, xor_mod2]

theorem xor_step (a b i : Nat) : (a ^^^ b) % 2 ^ (i + 1) = (a ^^^ b) % 2 ^ i + (if (a / 2 ^ i + b / 2 ^ i) % 2 = 1 then 2 ^ i else 0) := by
  rw [mod_succ, xor_bit]
  rcases Nat.mod_two_eq_zero_or_one (a / 2 ^ i + b / 2 ^ i) with h | h <;> simp [h]

theorem stpN_succ (n c : Nat) : stpN (n + 1) c = stp (stpN n c) := by
  rw [stpN_add]; rfl


end Go.Proofs.Ythcajaadbdiggaa.CRC
