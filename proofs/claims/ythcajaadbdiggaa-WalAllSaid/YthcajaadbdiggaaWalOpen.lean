/- Contract of Open. -/
import Derived.Test.YthcajaadbdiggaaWalLook
import Derived.Test.YthcajaadbdiggaaWalRew
import Derived.Test.YthcajaadbdiggaaDiskNil
namespace Go.Proofs.Ythcajaadbdiggaa
set_option maxRecDepth 1000000
open Go.RowKit
variable {X : Nat → Prop}

theorem walkR_bound : ∀ (rs : List (List UInt8)) (wh : Bool), (walkR rs wh).1.flatten.length ≤ rs.flatten.length ∧ (walkR rs wh).1.length ≤ rs.length ∧ ∀ r ∈ (walkR rs wh).1, ∃ x ∈ rs, r.length + 1 ≤ x.length
  | [], wh => by simp [walkR]
  | r :: rs, wh => by
    have h1 := walkR_bound rs wh
    have h2 := walkR_bound rs true
    by_cases hR : r.head? = some 82
    · obtain ⟨t, rfl⟩ : ∃ t, r = 82 :: t := by
        cases r with
        | nil => cases hR
        | cons y t => injection hR with hR; subst hR; exact ⟨t, rfl⟩
      have e : walkR ((82 :: t) :: rs) wh = (t :: (walkR rs wh).1, (walkR rs wh).2) := by simp [walkR]
      rw [e]
      refine ⟨by simp only [List.flatten_cons, List.length_append, List.length_cons]; have := h1.1; omega, by simp only [List.length_cons]; have := h1.2.1; omega, fun q hq => ?_⟩
      rcases List.mem_cons.1 hq with rfl | hq
      · exact ⟨_, List.mem_cons_self, by simp⟩
      · obtain ⟨x, hx, hl⟩ := h1.2.2 q hq
        exact ⟨x, List.mem_cons_of_mem _ hx, hl⟩
    · cases wh with
      | true =>
        have e : walkR (r :: rs) true = ([], true, true) := by simp [walkR, hR]
        rw [e]; simp
      | false =>
        by_cases hE : r = [69]
        · have e : walkR (r :: rs) false = walkR rs true := by subst hE; simp [walkR]
          rw [e]
          refine ⟨by simp only [List.flatten_cons, List.length_append]; have := h2.1; omega, by simp only [List.length_cons]; have := h2.2.1; omega, fun q hq => ?_⟩
          obtain ⟨x, hx, hl⟩ := h2.2.2 q hq
          exact ⟨x, List.mem_cons_of_mem _ hx, hl⟩
        · have e : walkR (r :: rs) false = ([], false, true) := by simp [walkR, hR, hE]
          rw [e]; simp
theorem encs_length : ∀ l : List (List UInt8), (l.map enc).flatten.length = l.flatten.length + 8 * l.length
  | [] => rfl
  | r :: rs => by
    show (enc r ++ (rs.map enc).flatten).length = _
    rw [List.length_append, enc_length, encs_length rs, List.flatten_cons, List.length_append, List.length_cons]; omega
theorem look_bound {xs : List UInt8} {g : Nat} {recs : List (List UInt8)} {sp : Bool} (h : lookOf xs = some (g, recs, sp)) : recs.flatten.length ≤ xs.length ∧ 8 * recs.length ≤ xs.length ∧ 0 < g ∧ g < 4611686018427387904 ∧ tooLong recs = false := by
  obtain ⟨henc, hm⟩ := (scan_reach xs).1.enc
  have hb := scan_bound xs
  have hlen := encs_length (scanOf xs).1
  rw [← henc, List.length_take] at hlen
  unfold lookOf at h
  generalize (scanOf xs).1 = ls at *
  cases ls with
  | nil => cases h
  | cons g0 rs =>
    simp only [lookL] at h
    split at h
    · rename_i hc
      split at h
      · injection h with h
        injection h with e1 h
        injection h with e2 e3
        subst e1 e2
        obtain ⟨h1, h2, h3⟩ := walkR_bound rs false
        simp only [List.flatten_cons, List.length_append, List.length_cons] at hlen
        refine ⟨by omega, by omega, hc.2.2.1, hc.2.2.2, List.any_eq_false.2 (fun r hr => ?_)⟩
        obtain ⟨x, hx, hl⟩ := h3 r hr
        have := hm x (List.mem_cons_of_mem _ hx)
        simp; omega
      · cases h
    · cases h

/-- what is picked of the first k files -/
def pk (D : DS) : Nat → Option (Int × Nat × List (List UInt8) × Nat × Bool)
  | 0 => none
  | k + 1 => match lookOf (D.b (k : Int)), pk D k with
    | none, y => y
    | some x, none => some ((k : Int), x.1, x.2.1, (D.b (k : Int)).length, x.2.2)
    | some x, some y => if y.2.1 < x.1 then some ((k : Int), x.1, x.2.1, (D.b (k : Int)).length, x.2.2) else some y
theorem wPick_pk (D : DS) : wPick D = match pk D 2 with
    | none => (-1, 0, [], 0, true)
    | some y => y := by
  simp only [pk, wPick]
  cases h0 : lookOf (D.b 0) with
  | none =>
    cases h1 : lookOf (D.b 1) with
    | none => simp [h0, h1]
    | some y => simp [h0, h1]
  | some x =>
    cases h1 : lookOf (D.b 1) with
    | none => simp [h0, h1]
    | some y =>
      simp only [Int.natCast_zero, h0, show ((1 : Nat) : Int) = 1 from rfl, h1]
      split <;> rfl
/-- the log that Open makes, k files being read -/
def firstW (D : DS) (y : Option (Int × Nat × List (List UInt8) × Nat × Bool)) : WS := { f := match y with | none => -1 | some q => q.1, gen := 0, recs := [], bytes := 0, lives := D.lives, done := false }
/-- 'now', k files being read -/
def NowAt (wr : World) (pn : Nat) (y : Option (Int × Nat × List (List UInt8) × Nat × Bool)) : Prop :=
  ∃ B m c, wr.heap[pn]? = some (match y with
      | none => zeroRead
      | some q => .cells #[.int .u64 (q.2.1 : Int), .slice B m c, .int .i64 (q.2.2.2.1 : Int), .bool q.2.2.2.2] 95 (0, 0)) ∧ m ≤ c ∧
    ∀ U : World, (∀ g, pn + 1 ≤ g → g < wr.heap.size → U.heap[g]? = wr.heap[g]?) → RdL U B m (match y with | none => [] | some q => q.2.2.1)

theorem NowAt.move {wr w' : World} {pn : Nat} {y : Option (Int × Nat × List (List UInt8) × Nat × Bool)} (h : NowAt wr pn y) (hb : Below wr.heap.size wr w') : NowAt w' pn y := by
  obtain ⟨B, m, c, h1, h2, h3⟩ := h
  exact ⟨B, m, c, (hb.block _ (heap_lt h1)).trans h1, h2, fun U hU => h3 U (fun g hg hg2 => (hU g hg (Nat.lt_of_lt_of_le hg2 hb.size)).trans (hb.block g hg2))⟩
theorem wOpen_off {D : DS} (h : D.off = true) : wOpen D = (D, none, 6) := by unfold wOpen; rw [if_pos h]
theorem wOpen_clean {D : DS} (h : D.off = false) (h2 : (wPick D).2.2.2.2 = false) : wOpen D = (D, some (wFirst D), 0) := by unfold wOpen; rw [if_neg (by rw [h]; simp), if_neg (by rw [h2]; simp)]
theorem wOpen_bad {D : DS} (h : D.off = false) (h2 : (wPick D).2.2.2.2 = true) {R : DS × WS × Int} (hR : wRew D (wFirst D) (wFirst D).recs = R) (h3 : R.2.2 ≠ 0) : wOpen D = (R.1, none, R.2.2) := by
  unfold wOpen; rw [if_neg (by rw [h]; simp), if_pos h2, hR, if_pos h3]
theorem wOpen_rew {D : DS} (h : D.off = false) (h2 : (wPick D).2.2.2.2 = true) {R : DS × WS × Int} (hR : wRew D (wFirst D) (wFirst D).recs = R) (h3 : R.2.2 = 0) : wOpen D = (R.1, some R.2.1, 0) := by
  unfold wOpen; rw [if_neg (by rw [h]; simp), if_pos h2, hR, if_neg (by simpa using h3)]
theorem pk_none {D : DS} {k : Nat} (h : lookOf (D.b (k : Int)) = none) : pk D (k + 1) = pk D k := by simp only [pk, h]
theorem pk_first {D : DS} {k : Nat} {x : Nat × List (List UInt8) × Bool} (h : lookOf (D.b (k : Int)) = some x) (h2 : pk D k = none) : pk D (k + 1) = some ((k : Int), x.1, x.2.1, (D.b (k : Int)).length, x.2.2) := by simp only [pk, h, h2]
theorem pk_new {D : DS} {k : Nat} {x : Nat × List (List UInt8) × Bool} {y : Int × Nat × List (List UInt8) × Nat × Bool} (h : lookOf (D.b (k : Int)) = some x) (h2 : pk D k = some y) (h3 : y.2.1 < x.1) : pk D (k + 1) = some ((k : Int), x.1, x.2.1, (D.b (k : Int)).length, x.2.2) := by simp only [pk, h, h2]; rw [if_pos h3]
theorem pk_old {D : DS} {k : Nat} {x : Nat × List (List UInt8) × Bool} {y : Int × Nat × List (List UInt8) × Nat × Bool} (h : lookOf (D.b (k : Int)) = some x) (h2 : pk D k = some y) (h3 : ¬ y.2.1 < x.1) : pk D (k + 1) = pk D k := by simp only [pk, h, h2]; rw [if_neg h3]
theorem pk_f {D : DS} : ∀ {k : Nat} {y : Int × Nat × List (List UInt8) × Nat × Bool}, pk D k = some y → 0 ≤ y.1 ∧ y.1 < k ∧ y.2.1 < 4611686018427387904 ∧ ∃ f : Nat, y.1 = f ∧ lookOf (D.b y.1) = some (y.2.1, y.2.2.1, y.2.2.2.2) ∧ y.2.2.2.1 = (D.b y.1).length
  | 0, y, h => by cases h
  | k + 1, y, h => by
    cases hL : lookOf (D.b (k : Int)) with
    | none =>
      rw [pk_none hL] at h
      obtain ⟨h1, h2, h3⟩ := pk_f h
      exact ⟨h1, by omega, h3⟩
    | some x =>
      have hb := (look_bound (g := x.1) (recs := x.2.1) (sp := x.2.2) hL).2.2.2.1
      cases hp : pk D k with
      | none =>
        rw [pk_first hL hp] at h
        injection h with h
        subst h
        exact ⟨by simp, by simp; omega, hb, k, rfl, hL, rfl⟩
      | some y' =>
        by_cases hlt : y'.2.1 < x.1
        · rw [pk_new hL hp hlt] at h
          injection h with h
          subst h
          exact ⟨by simp, by simp; omega, hb, k, rfl, hL, rfl⟩
        · rw [pk_old hL hp hlt] at h
          obtain ⟨h1, h2, h3⟩ := pk_f h
          exact ⟨h1, by omega, h3⟩
def OpenPost (X : Nat → Prop) (w : World) (d b : Nat) (sw : Bool) (D : DS) (e : Ending) (w' : World) : Prop :=
  (∃ W p B m c, (wOpen D).2.1 = some W ∧ e = .returned (.tuple #[.pointer (some ⟨p, 0, none⟩), .slice B m c, .int .i64 0]) ∧ (∃ V', DiskAt (fun k => X k ∧ k ≠ p) w' d b sw V' (wOpen D).1) ∧ w'.heap[p]? = some (walCells d W) ∧ w.heap.size ≤ p ∧ RdL w' B m (wFirst D).recs ∧ m ≤ c ∧ OnlyD d b w w') ∨
  ((wOpen D).2.1 = none ∧ (wOpen D).2.2 ≠ 0 ∧ e = .returned (.tuple #[.pointer none, .slice none 0 0, .int .i64 (wOpen D).2.2]) ∧ (∃ V', DiskAt X w' d b sw V' (wOpen D).1) ∧ OnlyD d b w w')

/-- a file is taken: the world behind the two stores -/
def takeW0 (w4 : World) (p : Nat) (k : Nat) (g : Nat) (B : Option Addr) (m c len : Nat) (sp : Bool) : World :=
  ((((w4.setCell ⟨p, 3, none⟩ (.int .i64 (k : Int))).setCell ⟨p + 1, 0, none⟩ (.int .u64 (g : Int))).setCell ⟨p + 1, 1, none⟩ (.slice B m c)).setCell ⟨p + 1, 2, none⟩ (.int .i64 (len : Int))).setCell ⟨p + 1, 3, none⟩ (.bool sp)
theorem takeW0_facts {w4 : World} {p k g m c len : Nat} {B : Option Addr} {sp : Bool} {cs : Array Value} {t : TypeId} {n0 n1 n2 n3 : Value} {t2 : TypeId} (HP : w4.heap[p]? = some (.cells cs t (0, 0))) (hn : w4.heap[p + 1]? = some (.cells #[n0, n1, n2, n3] t2 (0, 0))) :
    (takeW0 w4 p k g B m c len sp).heap.size = w4.heap.size ∧ (∀ z, z ≠ p → z ≠ p + 1 → (takeW0 w4 p k g B m c len sp).heap[z]? = w4.heap[z]?) ∧
      (takeW0 w4 p k g B m c len sp).heap[p]? = some (.cells (cs.setIfInBounds 3 (.int .i64 (k : Int))) t (0, 0)) ∧ (takeW0 w4 p k g B m c len sp).heap[p + 1]? = some (.cells #[.int .u64 (g : Int), .slice B m c, .int .i64 (len : Int), .bool sp] t2 (0, 0)) ∧
      ∀ base u, Below base u w4 → base ≤ p → Below base u (takeW0 w4 p k g B m c len sp) := by
  unfold takeW0
  have h1 : (w4.setCell ⟨p, 3, none⟩ (.int .i64 (k : Int))).heap[p + 1]? = some (.cells #[n0, n1, n2, n3] t2 (0, 0)) := by rw [Below.heap_setCell _ _ _ _ (show p + 1 ≠ p by omega)]; exact hn
  refine ⟨by simp [World.setCell], fun z h1 h2 => ?_, ?_, ?_, fun base u hb hp => ?_⟩
  · rw [Below.heap_setCell _ _ _ _ h2, Below.heap_setCell _ _ _ _ h2, Below.heap_setCell _ _ _ _ h2, Below.heap_setCell _ _ _ _ h2, Below.heap_setCell _ _ _ _ h1]
  · have hne : p ≠ p + 1 := by omega
    rw [Below.heap_setCell _ _ _ _ hne, Below.heap_setCell _ _ _ _ hne, Below.heap_setCell _ _ _ _ hne, Below.heap_setCell _ _ _ _ hne, set_row HP]
  · rw [set_row (set_row (set_row (set_row h1 _ _) _ _) _ _)]
    simp
  · exact ((((hb.setCell (p := ⟨p, 3, none⟩) hp _).setCell (p := ⟨p + 1, 0, none⟩) (Nat.le_succ_of_le hp) _).setCell (p := ⟨p + 1, 1, none⟩) (Nat.le_succ_of_le hp) _).setCell (p := ⟨p + 1, 2, none⟩) (Nat.le_succ_of_le hp) _).setCell (p := ⟨p + 1, 3, none⟩) (Nat.le_succ_of_le hp) _
theorem NowAt.drew {wr : World} {pn : Nat} {y : Option (Int × Nat × List (List UInt8) × Nat × Bool)} (h : NowAt wr pn y) : NowAt wr.drew pn y := h
theorem take_file {w w4 : World} {d : Nat} {D : DS} {y y' : Option (Int × Nat × List (List UInt8) × Nat × Bool)} {k g m c len N M : Nat} {B : Option Addr} {sp : Bool} {recs : List (List UInt8)} {n0 n1 n2 n3 : Value}
    (HP : w4.heap[w.heap.size]? = some (walCells d (firstW D y))) (hn : w4.heap[w.heap.size + 1]? = some (.cells #[n0, n1, n2, n3] 95 (0, 0))) (hb : Below w.heap.size w w4)
    (hst : ∀ U : World, (∀ z, N ≤ z → z < M → U.heap[z]? = w4.heap[z]?) → RdL U B m recs) (hN : w.heap.size + 2 ≤ N) (hM : M ≤ w4.heap.size) (hmc : m ≤ c) (hk : y' = some ((k : Int), g, recs, len, sp)) :
    (takeW0 w4 w.heap.size k g B m c len sp).heap[w.heap.size]? = some (walCells d (firstW D y')) ∧ NowAt (takeW0 w4 w.heap.size k g B m c len sp) (w.heap.size + 1) y' ∧ Below w.heap.size w (takeW0 w4 w.heap.size k g B m c len sp) ∧ (takeW0 w4 w.heap.size k g B m c len sp).heap.size = w4.heap.size := by
  subst hk
  obtain ⟨f1, f2, f3, f4, f5⟩ := takeW0_facts (k := k) (g := g) (B := B) (m := m) (c := c) (len := len) (sp := sp) HP hn
  generalize takeW0 w4 w.heap.size k g B m c len sp = T at *
  refine ⟨?_, ⟨B, m, c, f4, hmc, fun U hU => hst U (fun z h1 h2 => ?_)⟩, f5 _ _ hb (Nat.le_refl _), f1⟩
  · rw [f3]; simp [walCells, firstW]
  · exact (hU z (by omega) (by rw [f1]; omega)).trans (f2 z (by omega) (by omega))

theorem now_pick {wr : World} {pn : Nat} {D : DS} (h : NowAt wr pn (pk D 2)) : ∃ B m c sp, wr.heap[pn]? = some (.cells #[.int .u64 ((wFirst D).gen : Int), .slice B m c, .int .i64 ((wFirst D).bytes : Int), .bool sp] 95 (0, 0)) ∧ m ≤ c ∧
    (∀ U : World, (∀ g, pn + 1 ≤ g → g < wr.heap.size → U.heap[g]? = wr.heap[g]?) → RdL U B m (wFirst D).recs) ∧ (firstW D (pk D 2)).f = (wFirst D).f ∧
    (((wFirst D).f = -1 ∧ (wPick D).2.2.2.2 = true ∧ sp = false) ∨ (((wFirst D).f = 0 ∨ (wFirst D).f = 1) ∧ (wPick D).2.2.2.2 = sp)) := by
  have hp := wPick_pk D
  obtain ⟨B, m, c, h1, h2, h3⟩ := h
  cases hk : pk D 2 with
  | none =>
    rw [hk] at hp h1 h3
    refine ⟨none, 0, 0, false, ?_, Nat.le_refl _, fun U _ => ?_, ?_, .inl ⟨?_, ?_, rfl⟩⟩
    · rw [h1]; simp [zeroRead, wFirst, hp]
    · rw [show (wFirst D).recs = [] by simp [wFirst, hp]]; exact ⟨rfl, fun h => absurd h (by omega)⟩
    · simp [firstW, wFirst, hp]
    · simp [wFirst, hp]
    · simp [hp]
  | some y =>
    obtain ⟨f1, f2, _⟩ := pk_f hk
    rw [hk] at hp h1 h3
    simp only at hp
    refine ⟨B, m, c, y.2.2.2.2, ?_, h2, fun U hU => ?_, ?_, .inr ⟨?_, ?_⟩⟩
    · rw [h1]; simp [wFirst, hp]
    · rw [show (wFirst D).recs = y.2.2.1 by simp [wFirst, hp]]; exact h3 U hU
    · simp [firstW, wFirst, hp]
    · rw [show (wFirst D).f = y.1 by simp [wFirst, hp]]; omega
    · rw [hp]
theorem wFirst_bound {D : DS} (hok : D.Ok) : (wFirst D).recs.flatten.length ≤ 4194304 ∧ (wFirst D).recs.length ≤ 524288 ∧ (wFirst D).gen ≤ 4611686018427387904 ∧ (wFirst D).bytes ≤ 4194304 ∧ ((wFirst D).f = -1 ∨ (wFirst D).f = 0 ∨ (wFirst D).f = 1) := by
  have hp := wPick_pk D
  cases hk : pk D 2 with
  | none =>
    rw [hk] at hp
    simp [wFirst, hp]
  | some y =>
    obtain ⟨f1, f2, f3, f, _, f4, f5⟩ := pk_f hk
    rw [hk] at hp
    simp only at hp
    obtain ⟨b1, b2, b3, b4, _⟩ := look_bound f4
    have hsz := hok.size y.1
    simp only [wFirst, hp]
    refine ⟨by omega, by omega, by omega, by omega, by omega⟩

set_option maxHeartbeats 8000000 in
theorem open_calls (d b : Nat) (sw : Bool) (V : Int → Value) (D : DS) (w : World) (hD : DiskAt X w d b sw V D) (hX2 : ∀ k, w.heap.size ≤ k → X k) (hs : D.steps + 3 < 1099511627776) :
    Calls Try.prog 16 #[.pointer (some ⟨d, 0, none⟩)] w fun e w' => OpenPost X w d b sw D e w' := by
  have hlives := lives_calls d b sw V D w hD
  go_enter Try.func16, Try.ntmps16
  go_wp2_with fail
  refine hlives.mono ?_
  rintro e w1 ⟨rfl, rfl⟩
  have hb0 := ((Below.refl w.heap.size w).alloc (Nat.le_refl _) (walCells d (firstW D none))).alloc (by simp) zeroRead
  have hp0 := alloc_old (o' := zeroRead) (alloc_new w (walCells d (firstW D none)) _ rfl)
  have hn0 := alloc_new (w.alloc (walCells d (firstW D none))) zeroRead (w.heap.size + 1) (by simp)
  have hsz0 : w.heap.size + 2 ≤ ((w.alloc (walCells d (firstW D none))).alloc zeroRead).heap.size := by simp
  go_wp2_with fail
  change Code.wp _ _ _ _ ((w.alloc (walCells d (firstW D none))).alloc zeroRead)
  have HN0 : NowAt ((w.alloc (walCells d (firstW D none))).alloc zeroRead) (w.heap.size + 1) none := ⟨none, 0, 0, hn0, Nat.le_refl _, fun U _ => ⟨rfl, fun h => absurd h (by omega)⟩⟩
  have HP0 := Lib.hid hp0
  clear hn0 hp0 hlives
  generalize (w.alloc (walCells d (firstW D none))).alloc zeroRead = W0 at *
  have hlt := hD.lt
  have HD := Lib.hid hD
  clear hD
  go_loopw [2, 17] (fun wv i wr => ∃ k : Nat, k ≤ 2 ∧ i = .int .i64 k ∧ wv = .pointer (some ⟨w.heap.size, 0, none⟩) ∧ Hid (wr.heap[w.heap.size]? = some (walCells d (firstW D (pk D k)))) ∧ Hid (NowAt wr (w.heap.size + 1) (pk D k)) ∧ Hid (k = 0 ∨ D.off = false) ∧ Below w.heap.size w wr ∧ w.heap.size + 2 ≤ wr.heap.size) (fun _ i _ => 2 - (intOf i).toNat)
  case atStart => exact ⟨0, by decide, rfl, rfl, HP0, HN0, .inl rfl, hb0, hsz0⟩
  case round =>
    clear HP0 HN0 hb0 hsz0
    obtain ⟨k, hk, rfl, rfl, HP, HN, Hoff, hbel, hsz⟩ := hrel
    by_cases hk2 : k < 2
    · have hD1 := HD.out.move hbel
      have hkf : (k : Int) = 0 ∨ (k : Int) = 1 := by omega
      have hread := read_calls d b sw V D k wr hD1
      have hfl := hD1.ok.size (k : Int)
      by_cases hoff : D.off = true
      · have hrd : readD D k = ([], 6) := by unfold readD mayE; rw [hoff]; simp
        rw [hrd] at hread
        clear hD1
        go_wp2_with fail
        refine hread.mono ?_
        rintro e w2 ⟨⟨u, n, rfl, hn, hown⟩, hb2⟩
        have hb3 := below_then hbel hb2
        have Hfin : Hid (OpenPost X w d b sw D (.returned (.tuple #[.pointer none, .slice none 0 0, .int .i64 6])) w2) := Lib.hid (.inr (by rw [wOpen_off hoff]; exact ⟨rfl, (by decide : (6 : Int) ≠ 0), rfl, ⟨V, HD.out.move hb3⟩, OnlyD.of_below hb3⟩))
        clear hn hown
        go_wp2_with fail
        go_ret3
        exact Hfin.out
      · have hrd : readD D k = (D.b k, 0) := by unfold readD mayE; rw [if_neg hoff, if_pos hkf, if_pos rfl]
        rw [hrd] at hread
        have Hoff2 : Hid (D.off = false) := Lib.hid (Bool.eq_false_iff.2 hoff)
        clear hD1 Hoff hrd
        go_wp2_with fail
        refine hread.mono ?_
        rintro e w2 ⟨⟨u, n, rfl, hn, hown⟩, hb2⟩
        obtain ⟨A, c, rfl, hnc, hrd⟩ := own_rd hown
        obtain rfl : n = (D.b (k : Int)).length := hn
        have hb3 := below_then hbel hb2
        have hs3 := Nat.le_trans hsz hb2.size
        clear hown hread
        go_wp2_with fail
        refine (look_calls A _ c (D.b (k : Int)) w2 hrd hnc (by omega)).mono ?_
        rintro e w3 ⟨hlook, hb4⟩
        have hb5 := below_then hb3 hb4
        have hP3 := ((below_then hb2 hb4).block _ (heap_lt HP.out)).trans HP.out
        unfold LookPost at hlook
        cases hL : lookOf (D.b (k : Int)) with
        | none =>
          rw [hL] at hlook
          obtain ⟨g', B, m, c', s', sp, rfl⟩ := hlook
          have hbx := (Below.refl w3.heap.size w3).alloc (Nat.le_refl _) (.cells #[.int .u64 (g' : Int), .slice B m c', .int .i64 s', .bool sp] 95)
          have hbw := below_then (below_then hb2 hb4) hbx
          have hb6 := below_then hbel hbw
          have HP6 := Lib.hid ((hbw.block _ (heap_lt HP.out)).trans HP.out)
          have HN6 := Lib.hid (HN.out.move hbw)
          rw [← pk_none hL] at HP6 HN6
          have hs6 := Nat.le_trans hsz hbw.size
          have Hoff6 : Hid (k + 1 = 0 ∨ D.off = false) := Lib.hid (.inr Hoff2.out)
          clear hL hP3 hb5 hbel hb2 hb4 hb3 HP HN hbw hbx hs3 hsz hrd
          go_wp2_with fail
          go_roundw
          case rel => exact ⟨k + 1, by omega, by go_num, rfl, HP6, HN6, Hoff6, hb6, hs6⟩
          case measure => simp [intOf]; omega
        | some x =>
          rw [hL] at hlook
          obtain ⟨g, recs, sp⟩ := x
          obtain ⟨B, m, c', rfl, hmc, hst⟩ := hlook
          have hbx := (Below.refl w3.heap.size w3).alloc (Nat.le_refl _) (.cells #[.int .u64 (g : Int), .slice B m c', .int .i64 ((D.b (k : Int)).length : Int), .bool sp] 95)
          have x0 := alloc_new w3 (.cells #[.int .u64 (g : Int), .slice B m c', .int .i64 ((D.b (k : Int)).length : Int), .bool sp] 95) _ rfl
          have hbw := below_then (below_then hb2 hb4) hbx
          have hb6 := below_then hbel hbw
          have HP6 := Lib.hid ((hbw.block _ (heap_lt HP.out)).trans HP.out)
          have HN6 := Lib.hid (HN.out.move hbw)
          have hs6 := Nat.le_trans hsz hbw.size
          have hst6 : ∀ U : World, (∀ z, w2.heap.size ≤ z → z < w3.heap.size → U.heap[z]? = (w3.alloc (.cells #[.int .u64 (g : Int), .slice B m c', .int .i64 ((D.b (k : Int)).length : Int), .bool sp] 95)).heap[z]?) → RdL U B m recs := fun U hU =>
            hst U (fun q hq hq2 => (hU q hq hq2).trans (hbx.block q hq2))
          have Hst := Lib.hid hst6
          have Hm3 : Hid (w3.heap.size ≤ (w3.alloc (.cells #[.int .u64 (g : Int), .slice B m c', .int .i64 ((D.b (k : Int)).length : Int), .bool sp] 95)).heap.size) := Lib.hid hbx.size
          have hx3 : w.heap.size + 2 ≤ w3.heap.size := Nat.le_trans hs3 hb4.size
          have hw23 : w.heap.size + 2 ≤ w2.heap.size := hs3
          have hgl := (look_bound hL).2.2.2.1
          clear hst hst6 hP3 hb5 hbel hb2 hb4 hb3 HP HN hbw hbx hs3 hsz hrd
          have hoff6 : Hid (k + 1 = 0 ∨ D.off = false) := Lib.hid (.inr Hoff2.out)
          have HL := Lib.hid hL
          clear hL
          cases hpk : pk D k with
          | none =>
            rw [hpk] at HP6 HN6
            have HK := Lib.hid (pk_first HL.out hpk)
            obtain ⟨B0, m0, c0, hn6, _, _⟩ := HN6.out
            obtain ⟨a0, a1, a2, a3, a4, a5, a6, af⟩ := wal_cell HP6.out
            have n0 := cell_row hn6 0
            have n1 := cell_row hn6 1
            have n2 := cell_row hn6 2
            have n3 := cell_row hn6 3
            have nf := fun j => free_row hn6 j
            have b0 := cell_row x0 0
            have b1 := cell_row x0 1
            have b2 := cell_row x0 2
            have b3 := cell_row x0 3
            clear hpk
            go_wp2_with fail
            generalize w3.alloc (.cells #[.int .u64 (g : Int), .slice B m c', .int .i64 ((D.b (k : Int)).length : Int), .bool sp] 95) = w4 at *
            simp at n0 n1 n2 n3 b0 b1 b2 b3
            have HT := Lib.hid (take_file HP6.out hn6 hb6 Hst.out hw23 Hm3.out hmc HK.out)
            clear HP6 HN6 hb6 x0 hn6 Hst HK
            go_region
            all_goals
              obtain ⟨t1, t2, t3, t4⟩ := HT.out
              have T1 := Lib.hid t1
              have T2 := Lib.hid t2
              have T4 := Nat.le_trans hs6 (Nat.le_of_eq t4.symm)
              clear t1 t2 t4 HT n0 n1 n2 n3 nf b0 b1 b2 b3 a0 a1 a2 a3 a4 a5 a6 af
              change Exit.inBlock _ _ _ _ (takeW0 w4 w.heap.size k g B m c' (D.b (k : Int)).length sp).drew
              generalize takeW0 w4 w.heap.size k g B m c' (D.b (k : Int)).length sp = w9 at *
              go_wp2_with fail
              go_roundw
              case rel => exact ⟨k + 1, by omega, by go_num, rfl, T1, T2, hoff6, t3.drew, T4⟩
              case measure => simp [intOf]; omega
          | some y =>
            obtain ⟨hy0, hy1, hy2, _⟩ := pk_f hpk
            rw [hpk] at HP6 HN6
            obtain ⟨yf, yg, yr, yl, ys⟩ := y
            simp only at hy0 hy1 hy2
            obtain ⟨B0, m0, c0, hn6, _, _⟩ := HN6.out
            simp only at hn6
            obtain ⟨a0, a1, a2, a3, a4, a5, a6, af⟩ := wal_cell HP6.out
            have a3' : (w3.alloc (.cells #[.int .u64 (g : Int), .slice B m c', .int .i64 ((D.b (k : Int)).length : Int), .bool sp] 95)).cell? ⟨w.heap.size, 3, none⟩ = some (.int .i64 yf) := a3
            have n0 := cell_row hn6 0
            have n1 := cell_row hn6 1
            have n2 := cell_row hn6 2
            have n3 := cell_row hn6 3
            have nf := fun j => free_row hn6 j
            have b0 := cell_row x0 0
            have b1 := cell_row x0 1
            have b2 := cell_row x0 2
            have b3 := cell_row x0 3
            clear a3
            by_cases hgy : yg < g
            · have HK := Lib.hid (pk_new HL.out hpk hgy)
              have HT := Lib.hid (take_file HP6.out hn6 hb6 Hst.out hw23 Hm3.out hmc HK.out)
              have hgy' : (yg : Int) < (g : Int) := by omega
              clear hpk HP6 HN6 hb6 x0 hn6 Hst HK hgl hy2
              go_wp2_with fail
              generalize w3.alloc (.cells #[.int .u64 (g : Int), .slice B m c', .int .i64 ((D.b (k : Int)).length : Int), .bool sp] 95) = w4 at *
              simp at n0 n1 n2 n3 b0 b1 b2 b3
              go_region
              all_goals
                obtain ⟨t1, t2, t3, t4⟩ := HT.out
                have T1 := Lib.hid t1
                have T2 := Lib.hid t2
                have T4 := Nat.le_trans hs6 (Nat.le_of_eq t4.symm)
                clear t1 t2 t4 HT n0 n1 n2 n3 nf b0 b1 b2 b3 a0 a1 a2 a3' a4 a5 a6 af
                change Exit.inBlock _ _ _ _ (takeW0 w4 w.heap.size k g B m c' (D.b (k : Int)).length sp).drew
                generalize takeW0 w4 w.heap.size k g B m c' (D.b (k : Int)).length sp = w9 at *
                go_wp2_with fail
                go_roundw
                case rel => exact ⟨k + 1, by omega, by go_num, rfl, T1, T2, hoff6, t3.drew, T4⟩
                case measure => simp [intOf]; omega
            · have HK := pk_old HL.out hpk hgy
              have hgy' : (g : Int) ≤ (yg : Int) := by omega
              have HP7 := HP6
              have HN7 := HN6
              rw [← hpk, ← HK] at HP7 HN7
              clear hpk HP6 HN6 x0 hn6 Hst HK hgl hy2 Hm3
              go_wp2_with fail
              go_roundw
              case rel => exact ⟨k + 1, by omega, by go_num, rfl, HP7, HN7, hoff6, hb6, hs6⟩
              case measure => simp [intOf]; omega
    · obtain rfl : k = 2 := by omega
      have hoff : D.off = false := Hoff.out.resolve_left (by decide)
      obtain ⟨B, m, c, sp, hn, hmc, hst, hff, hcase⟩ := now_pick HN.out
      obtain ⟨k1, k2, k3, k4, k5⟩ := wFirst_bound HD.out.ok
      have hrl := hst wr (fun _ _ _ => rfl)
      have hml := hrl.len
      obtain ⟨a0, a1, a2, a3, a4, a5, a6, af⟩ := wal_cell HP.out
      have n0 := cell_row hn 0
      have n1 := cell_row hn 1
      have n2 := cell_row hn 2
      have n3 := cell_row hn 3
      simp at n0 n1 n2 n3
      rw [hff] at a3
      have hP9 : (((wr.setCell ⟨w.heap.size, 4, none⟩ (.int .u64 ((wFirst D).gen : Int))).setCell ⟨w.heap.size, 5, none⟩ (.int .i64 (m : Int))).setCell ⟨w.heap.size, 6, none⟩ (.int .i64 ((wFirst D).bytes : Int))).heap[w.heap.size]? = some (walCells d (wFirst D)) := by
        rw [set_row (set_row (set_row HP.out _ _) _ _)]
        have hf := hff
        simp only [firstW] at hf
        simp [walCells, firstW, hf, hml]
        exact ⟨rfl, rfl⟩
      have hne : w.heap.size + 1 ≠ w.heap.size := by omega
      have hn9 : (((wr.setCell ⟨w.heap.size, 4, none⟩ (.int .u64 ((wFirst D).gen : Int))).setCell ⟨w.heap.size, 5, none⟩ (.int .i64 (m : Int))).setCell ⟨w.heap.size, 6, none⟩ (.int .i64 ((wFirst D).bytes : Int))).heap[w.heap.size + 1]? = some (.cells #[.int .u64 ((wFirst D).gen : Int), .slice B m c, .int .i64 ((wFirst D).bytes : Int), .bool sp] 95 (0, 0)) := by
        rw [Below.heap_setCell _ _ _ _ hne, Below.heap_setCell _ _ _ _ hne, Below.heap_setCell _ _ _ _ hne]; exact hn
      have hb9 := ((hbel.setCell (p := ⟨w.heap.size, 4, none⟩) (Nat.le_refl _) (.int .u64 ((wFirst D).gen : Int))).setCell (p := ⟨w.heap.size, 5, none⟩) (Nat.le_refl _) (.int .i64 (m : Int))).setCell (p := ⟨w.heap.size, 6, none⟩) (Nat.le_refl _) (.int .i64 ((wFirst D).bytes : Int))
      have hs9 : (((wr.setCell ⟨w.heap.size, 4, none⟩ (.int .u64 ((wFirst D).gen : Int))).setCell ⟨w.heap.size, 5, none⟩ (.int .i64 (m : Int))).setCell ⟨w.heap.size, 6, none⟩ (.int .i64 ((wFirst D).bytes : Int))).heap.size = wr.heap.size := by simp [World.setCell]
      have hst9 : ∀ U : World, (∀ g, w.heap.size + 2 ≤ g → g < wr.heap.size → U.heap[g]? = (((wr.setCell ⟨w.heap.size, 4, none⟩ (.int .u64 ((wFirst D).gen : Int))).setCell ⟨w.heap.size, 5, none⟩ (.int .i64 (m : Int))).setCell ⟨w.heap.size, 6, none⟩ (.int .i64 ((wFirst D).bytes : Int))).heap[g]?) → RdL U B m (wFirst D).recs := fun U hU =>
        hst U (fun z h1 h2 => by
          rw [hU z h1 h2]
          have hz : z ≠ w.heap.size := by omega
          rw [Below.heap_setCell _ _ _ _ hz, Below.heap_setCell _ _ _ _ hz, Below.heap_setCell _ _ _ _ hz])
      have Hst9 := Lib.hid hst9
      have Hn9 := Lib.hid hn9
      have HP9 := Lib.hid hP9
      have Hml := Lib.hid hml
      have hm52 : m ≤ 524288 := by omega
      clear hst hst9 hn9 hP9 hrl hml hne hn HP HN Hoff
      generalize hG : (wFirst D).gen = G at *
      generalize hBy : (wFirst D).bytes = By at *
      go_wp2_with fail
      go_region
      clear a0 a1 a2 a3 a4 a5 a6 af n0 n1 n2 n3
      change Exit.then _ _ _ _ (((wr.setCell ⟨w.heap.size, 4, none⟩ (.int .u64 (G : Int))).setCell ⟨w.heap.size, 5, none⟩ (.int .i64 (m : Int))).setCell ⟨w.heap.size, 6, none⟩ (.int .i64 (By : Int))).drew
      generalize ((wr.setCell ⟨w.heap.size, 4, none⟩ (.int .u64 (G : Int))).setCell ⟨w.heap.size, 5, none⟩ (.int .i64 (m : Int))).setCell ⟨w.heap.size, 6, none⟩ (.int .i64 (By : Int)) = W9 at *
      have hb10 := hb9.drew
      have hP10 : W9.drew.heap[w.heap.size]? = some (walCells d (wFirst D)) := HP9.out
      have hn10 : W9.drew.heap[w.heap.size + 1]? = some (.cells #[.int .u64 (G : Int), .slice B m c, .int .i64 (By : Int), .bool sp] 95 (0, 0)) := Hn9.out
      have Hst10 : Hid (∀ U : World, (∀ g, w.heap.size + 2 ≤ g → g < wr.heap.size → U.heap[g]? = W9.drew.heap[g]?) → RdL U B m (wFirst D).recs) := Lib.hid Hst9.out
      have hs10 : W9.drew.heap.size = wr.heap.size := hs9
      clear hb9 HP9 Hn9 Hst9 hs9
      generalize W9.drew = W10 at *
      -- the end of Open
      obtain ⟨a0, a1, a2, a3, a4, a5, a6, af⟩ := wal_cell hP10
      have n0 := cell_row hn10 0
      have n1 := cell_row hn10 1
      have n2 := cell_row hn10 2
      have n3 := cell_row hn10 3
      simp at n0 n1 n2 n3
      rcases hcase with ⟨hf, hsp, rfl⟩ | ⟨hf, hsp⟩
      · rw [hf] at a3
        clear hf
        have hD10 := (HD.out.imp (Y := fun k => X k ∧ k ≠ w.heap.size) (fun k hk h => ⟨h, by omega⟩)).move hb10
        have hrl10 := Hst10.out W10 (fun _ _ _ => rfl)
        have hrw := wrew_calls (X := fun k => X k ∧ k ≠ w.heap.size) w.heap.size d b sw V D (wFirst D) B m c (wFirst D).recs W10 hP10 hD10 (by omega) (fun k h => h.2) (fun k hk => ⟨hX2 k (by omega), by omega⟩) hs hrl10 (by omega) (by omega) (by omega) k5
        obtain ⟨R, hR⟩ : ∃ R, wRew D (wFirst D) (wFirst D).recs = R := ⟨_, rfl⟩
        rw [hR] at hrw
        have HR := Lib.hid hR
        have Hsp := Lib.hid hsp
        have n1' := n1
        clear hR hsp hP10 hD10 hrl10
        go_wp2_with fail
        refine hrw.mono ?_
        rintro e w11 ⟨rfl, ⟨V11, hD11⟩, hP11, ho11⟩
        have hfr : ∀ z, w.heap.size + 1 ≤ z → z < wr.heap.size → w11.heap[z]? = W10.heap[z]? := fun z h1 h2 => ho11.block z (by omega) (fun hh => by rcases hh with hh | hh | hh <;> omega)
        have hn11 := (hfr (w.heap.size + 1) (Nat.le_refl _) (by omega)).trans hn10
        have hOD : OnlyD d b w w11 := ⟨ho11.os.trans hb10.os, ho11.tape.trans hb10.tape, ho11.output.trans hb10.output, Nat.le_trans hb10.size ho11.size, fun k hk h1 h2 => (ho11.block k (by omega) (fun hh => by rcases hh with hh | hh | hh <;> omega)).trans (hb10.block k hk)⟩
        have Hst11 : Hid (∀ N : Nat, RdL (w11.drewN N) B m (wFirst D).recs) := Lib.hid (fun N => Hst10.out (w11.drewN N) (fun z h1 h2 => hfr z (by omega) h2))
        clear hrw hfr ho11 Hst10 hn10 a0 a1 a2 a3 a4 a5 a6 af n0 n1 n1' n2 n3
        by_cases hE : R.2.2 = 0
        · have m1 : ∀ N : Nat, (w11.drewN N).cell? ⟨w.heap.size + 1, 1, none⟩ = some (.slice B m c) := fun N => cell_row (w := w11.drewN N) hn11 1
          have Hfin : Hid (∀ N : Nat, OpenPost X w d b sw D (.returned (.tuple #[.pointer (some ⟨w.heap.size, 0, none⟩), .slice B m c, .int .i64 0])) (w11.drewN N)) := Lib.hid (fun N => .inl ⟨R.2.1, w.heap.size, B, m, c, by rw [wOpen_rew hoff Hsp.out HR.out hE], rfl, by rw [wOpen_rew hoff Hsp.out HR.out hE]; exact ⟨V11, hD11.move (below_drewN (Below.refl _ _) N)⟩, hP11, Nat.le_refl _, Hst11.out N, hmc, hOD.trans (OnlyD.of_below (below_drewN (Below.refl _ _) N))⟩)
          rw [hE]
          clear hE hn11 hD11 hP11 hOD
          go_wp2_with fail
          go_quiet (fail)
          go_wp2_with fail
          go_ret3
          exact Hfin.out _
        · have hne0 : (R.2.2 != 0) = true := by rw [bne_iff_ne]; exact hE
          have Hfin : Hid (OpenPost X w d b sw D (.returned (.tuple #[.pointer none, .slice none 0 0, .int .i64 R.2.2])) w11) := Lib.hid (.inr (by rw [wOpen_bad hoff Hsp.out HR.out hE]; exact ⟨rfl, hE, rfl, ⟨V11, hD11.imp (fun k _ h => h.1)⟩, hOD⟩))
          clear hE hn11 hD11 hP11 hOD
          go_wp2_with fail
          go_ret3
          exact Hfin.out
      · have hf0 : 0 ≤ (wFirst D).f := by omega
        cases sp with
        | true =>
          have hD10 := (HD.out.imp (Y := fun k => X k ∧ k ≠ w.heap.size) (fun k hk h => ⟨h, by omega⟩)).move hb10
          have hrl10 := Hst10.out W10 (fun _ _ _ => rfl)
          have hrw := wrew_calls (X := fun k => X k ∧ k ≠ w.heap.size) w.heap.size d b sw V D (wFirst D) B m c (wFirst D).recs W10 hP10 hD10 (by omega) (fun k h => h.2) (fun k hk => ⟨hX2 k (by omega), by omega⟩) hs hrl10 (by omega) (by omega) (by omega) (by omega)
          obtain ⟨R, hR⟩ : ∃ R, wRew D (wFirst D) (wFirst D).recs = R := ⟨_, rfl⟩
          rw [hR] at hrw
          have HR := Lib.hid hR
          have Hsp := Lib.hid hsp
          have n1' := n1
          clear hR hsp hP10 hD10 hrl10
          go_wp2_with fail
          refine hrw.mono ?_
          rintro e w11 ⟨rfl, ⟨V11, hD11⟩, hP11, ho11⟩
          have hfr : ∀ z, w.heap.size + 1 ≤ z → z < wr.heap.size → w11.heap[z]? = W10.heap[z]? := fun z h1 h2 => ho11.block z (by omega) (fun hh => by rcases hh with hh | hh | hh <;> omega)
          have hn11 := (hfr (w.heap.size + 1) (Nat.le_refl _) (by omega)).trans hn10
          have hOD : OnlyD d b w w11 := ⟨ho11.os.trans hb10.os, ho11.tape.trans hb10.tape, ho11.output.trans hb10.output, Nat.le_trans hb10.size ho11.size, fun k hk h1 h2 => (ho11.block k (by omega) (fun hh => by rcases hh with hh | hh | hh <;> omega)).trans (hb10.block k hk)⟩
          have Hst11 : Hid (∀ N : Nat, RdL (w11.drewN N) B m (wFirst D).recs) := Lib.hid (fun N => Hst10.out (w11.drewN N) (fun z h1 h2 => hfr z (by omega) h2))
          clear hrw hfr ho11 Hst10 hn10 a0 a1 a2 a3 a4 a5 a6 af n0 n1 n1' n2 n3
          by_cases hE : R.2.2 = 0
          · have m1 : ∀ N : Nat, (w11.drewN N).cell? ⟨w.heap.size + 1, 1, none⟩ = some (.slice B m c) := fun N => cell_row (w := w11.drewN N) hn11 1
            have Hfin : Hid (∀ N : Nat, OpenPost X w d b sw D (.returned (.tuple #[.pointer (some ⟨w.heap.size, 0, none⟩), .slice B m c, .int .i64 0])) (w11.drewN N)) := Lib.hid (fun N => .inl ⟨R.2.1, w.heap.size, B, m, c, by rw [wOpen_rew hoff Hsp.out HR.out hE], rfl, by rw [wOpen_rew hoff Hsp.out HR.out hE]; exact ⟨V11, hD11.move (below_drewN (Below.refl _ _) N)⟩, hP11, Nat.le_refl _, Hst11.out N, hmc, hOD.trans (OnlyD.of_below (below_drewN (Below.refl _ _) N))⟩)
            rw [hE]
            clear hE hn11 hD11 hP11 hOD
            go_wp2_with fail
            go_quiet (fail)
            go_wp2_with fail
            go_ret3
            exact Hfin.out _
          · have hne0 : (R.2.2 != 0) = true := by rw [bne_iff_ne]; exact hE
            have Hfin : Hid (OpenPost X w d b sw D (.returned (.tuple #[.pointer none, .slice none 0 0, .int .i64 R.2.2])) w11) := Lib.hid (.inr (by rw [wOpen_bad hoff Hsp.out HR.out hE]; exact ⟨rfl, hE, rfl, ⟨V11, hD11.imp (fun k _ h => h.1)⟩, hOD⟩))
            clear hE hn11 hD11 hP11 hOD
            go_wp2_with fail
            go_ret3
            exact Hfin.out
        | false =>
          have hD10 := (HD.out.imp (Y := fun k => X k ∧ k ≠ w.heap.size) (fun k hk h => ⟨h, by omega⟩)).move hb10
          have m1 : ∀ N : Nat, (W10.drewN N).cell? ⟨w.heap.size + 1, 1, none⟩ = some (.slice B m c) := fun N => cell_row (w := W10.drewN N) hn10 1
          have Hfin : Hid (∀ N : Nat, OpenPost X w d b sw D (.returned (.tuple #[.pointer (some ⟨w.heap.size, 0, none⟩), .slice B m c, .int .i64 0])) (W10.drewN N)) := Lib.hid (fun N => .inl ⟨wFirst D, w.heap.size, B, m, c, by rw [wOpen_clean hoff hsp], rfl, by rw [wOpen_clean hoff hsp]; exact ⟨V, hD10.move (below_drewN (Below.refl _ _) N)⟩, hP10, Nat.le_refl _, Hst10.out (W10.drewN N) (fun _ _ _ => rfl), hmc, (OnlyD.of_below hb10).trans (OnlyD.of_below (below_drewN (Below.refl _ _) N))⟩)
          clear hsp hP10 hD10 n0 n2
          go_wp2_with fail
          go_quiet (fail)
          go_wp2_with fail
          go_ret3
          exact Hfin.out _
end Go.Proofs.Ythcajaadbdiggaa
