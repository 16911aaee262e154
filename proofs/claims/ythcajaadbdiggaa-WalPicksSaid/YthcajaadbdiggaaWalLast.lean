/- The walk of the law WalLast. -/
import Derived.Test.YthcajaadbdiggaaWalGo
import Derived.Test.YthcajaadbdiggaaWalWhole
namespace Go.Proofs.Ythcajaadbdiggaa
set_option maxRecDepth 1000000
open Go.RowKit

def lastD (xs : List UInt8) : DS := { DS.new.put 0 xs 0 with steps := 1 }
theorem last_app {xs : List UInt8} (h : xs.length ≤ 4194304) : DS.new.appR 0 xs = (lastD xs, 0) :=
  app_good (D := DS.new) (f := 0) (ys := xs) rfl rfl (.inl rfl) (by show 0 + xs.length ≤ _; omega)
theorem last_b0 (xs : List UInt8) : (lastD xs).b 0 = xs := rfl
theorem last_b1 (xs : List UInt8) : (lastD xs).b 1 = [] := rfl
theorem last_low (xs : List UInt8) (g : Nat) : ∀ k x, lookOf (((lastD xs).b 1).take k) = some x → x.1 < g ∨ ((0 : Int) = 0 ∧ x.1 = g) := by
  intro k x hx
  rw [last_b1, List.take_nil, show lookOf [] = none from by decide +kernel] at hx
  cases hx
theorem last_pick {g : Nat} {recs : List (List UInt8)} {tail : List UInt8} (h0 : 0 < g) (h1 : g < 4611686018427387904) (hl : tooLong recs = false) (ht : nextErr tail 0 ≠ 0) :
    wPick (lastD (fileOf g recs ++ tail)) = (0, g, recs, (fileOf g recs ++ tail).length, decide (0 < tail.length)) := by
  have hk := look_file (more := []) h0 h1 hl rfl ht
  simp only [List.map_nil, List.flatten_nil, List.append_nil] at hk
  exact wPick_of (D := lastD (fileOf g recs ++ tail)) (f := 0) (.inl rfl) hk (fun y hy => by
    have := last_low (fileOf g recs ++ tail) g 0
    rw [show otherF 0 = 1 from rfl, last_b1, show lookOf [] = none from by decide +kernel] at hy
    cases hy)
def lastW (g : Nat) (recs : List (List UInt8)) (n : Nat) : WS := { f := 0, gen := g, recs := recs, bytes := n, lives := 0, done := false }
theorem last_first {g : Nat} {recs : List (List UInt8)} {tail : List UInt8} (h0 : 0 < g) (h1 : g < 4611686018427387904) (hl : tooLong recs = false) (ht : nextErr tail 0 ≠ 0) :
    wFirst (lastD (fileOf g recs ++ tail)) = lastW g recs (fileOf g recs ++ tail).length := by
  unfold wFirst
  rw [last_pick h0 h1 hl ht]; rfl
theorem last_clean {g : Nat} {recs : List (List UInt8)} (h0 : 0 < g) (h1 : g < 4611686018427387904) (hl : tooLong recs = false) :
    wOpen (lastD (fileOf g recs)) = (lastD (fileOf g recs), some (lastW g recs (fileOf g recs).length), 0) ∧ wFirst (lastD (fileOf g recs)) = lastW g recs (fileOf g recs).length ∧ Good (lastD (fileOf g recs)) (lastW g recs (fileOf g recs).length) := by
  have hp := last_pick (tail := []) h0 h1 hl nextErr_nil
  have hf := last_first (tail := []) h0 h1 hl nextErr_nil
  rw [List.append_nil] at hp hf
  refine ⟨by rw [wOpen_clean rfl (by rw [hp]; rfl), hf], hf, ⟨rfl, rfl, rfl, rfl, .inl rfl, h0, h1, ⟨recs, [], by rw [List.map_nil, List.flatten_nil, List.append_nil]; rfl, by rw [List.append_nil]; rfl⟩, hl, rfl, last_low _ _⟩⟩
theorem last_half {g : Nat} {recs : List (List UInt8)} {tail : List UInt8} (h1 : g < 4611686018427387904) (n : Nat) : Half (lastD (fileOf g recs ++ tail)) (lastW g recs n) :=
  ⟨rfl, rfl, rfl, rfl, .inl rfl, h1, ⟨(recs.map recR).flatten ++ (enc [69] ++ tail), by show fileOf g recs ++ tail = _; simp [fileOf, body, lastW]⟩⟩
theorem last_tail {g : Nat} {recs : List (List UInt8)} {tail : List UInt8} (h0 : 0 < g) (h1 : g + 1 < 4611686018427387904) (hl : tooLong recs = false) (ht : nextErr tail 0 ≠ 0) (h2 : 0 < tail.length) (hs : (fileOf (g + 1) recs).length ≤ 4194304) :
    ∃ D2 W2, wOpen (lastD (fileOf g recs ++ tail)) = (D2, some W2, 0) ∧ Good D2 W2 ∧ W2.gen = g + 1 ∧ W2.recs = recs ∧ W2.bytes = (fileOf (g + 1) recs).length ∧ D2.steps = 4 := by
  have hp := last_pick h0 (by omega) hl ht
  have hf := last_first h0 (by omega) hl ht
  obtain ⟨D', h3, h4, h5, h6, -, -⟩ := (last_half (g := g) (recs := recs) (tail := tail) (by omega) (fileOf g recs ++ tail).length).rew recs hl h1 hs
  obtain ⟨W', hW'⟩ : ∃ W' : WS, W' = { lastW g recs (fileOf g recs ++ tail).length with f := otherF (lastW g recs (fileOf g recs ++ tail).length).f, gen := (lastW g recs (fileOf g recs ++ tail).length).gen + 1, recs := recs, bytes := (fileOf ((lastW g recs (fileOf g recs ++ tail).length).gen + 1) recs).length } := ⟨_, rfl⟩
  rw [← hW'] at h3 h4
  refine ⟨D', W', by rw [wOpen_rew (R := (D', W', 0)) rfl (by rw [hp]; exact decide_eq_true h2) (by rw [hf]; exact h3) rfl], h4, by rw [hW']; rfl, by rw [hW'], by rw [hW']; rfl, h5⟩
theorem last_full {g : Nat} {recs : List (List UInt8)} {tail : List UInt8} (h0 : 0 < g) (h1 : g + 1 = 4611686018427387904) (hl : tooLong recs = false) (ht : nextErr tail 0 ≠ 0) (h2 : 0 < tail.length) :
    wOpen (lastD (fileOf g recs ++ tail)) = (lastD (fileOf g recs ++ tail), none, 8) := by
  have hp := last_pick h0 (by omega) hl ht
  have hf := last_first h0 (by omega) hl ht
  have h3 := wRew_full (D := lastD (fileOf g recs ++ tail)) (W := lastW g recs (fileOf g recs ++ tail).length) (l := recs) (by rw [(last_half (by omega) _).over]; simp) (by rw [hl]; simp) (by show _ ≤ g + 1; omega)
  rw [wOpen_bad (R := (lastD (fileOf g recs ++ tail), lastW g recs (fileOf g recs ++ tail).length, 8)) rfl (by rw [hp]; exact decide_eq_true h2) (by rw [hf]; exact h3) (by show (8 : Int) ≠ 0; decide)]

/-- the state of the rounds: the log's generation, and how many rounds are left -/
structure LastAt (w0 : World) (p d b : Nat) (recs : List (List UInt8)) (j : Nat) (wr : World) : Prop where
  at_ : ∃ D W V, DiskAt (fun k => Any k ∧ k ≠ p) wr d b false V D ∧ wr.heap[p]? = some (walCells d W) ∧ Good D W ∧ W.recs = recs ∧ W.bytes = recs.flatten.length + 9 * recs.length + 26 ∧ D.steps ≤ 10 + 4 * (3 - j) ∧ W.gen + j = 4611686018427387903
  below : Below w0.heap.size w0 wr

set_option maxHeartbeats 8000000 in
theorem wallast_0f (w : World) (c : Nat) (hc : c < 256) (hm : c % 3 = 0) (A : Option Addr) (n cap : Nat) (recs : List (List UInt8)) (hr : RdL w A n recs) (hn : n ≤ 140737488355328) :
    Calls Try.prog 6 #[.int .u8 (c : Int), .slice A n cap, .bool false] w fun e w' => e = .returned (.bool true) ∧ Below w.heap.size w w' := by
  have hm1 : (c : Int) % 3 = 0 := by omega
  have hm2 : (c : Int).tmod 3 = 0 := by rw [Int.tmod_eq_emod_of_nonneg (by omega)]; exact hm1
  clear hm
  go_enter Try.func6, Try.ntmps6
  go_wp2_with fail
  refine (begun_calls w).mono ?_
  rintro e w1 ⟨rfl, hbel1⟩
  by_cases h60 : 5 < n
  · go_wp2_with fail
    go_ret
    exact ⟨rfl, hbel1⟩
  go_wp2_with fail
  refine (sum0_calls A n cap recs 1000 w1 (hr.below hbel1) hn (by decide)).mono ?_
  rintro e w2 ⟨⟨r, rfl, hsum⟩, rfl⟩
  by_cases hrs : 1000 < r
  · go_wp2_with fail
    go_ret
    exact ⟨rfl, hbel1⟩
  have Hfl : Hid (recs.flatten.length ≤ 1000) := Lib.hid (by rw [← hsum (by omega)]; omega)
  have Hlong : Hid (tooLong recs = false) := Lib.hid (List.any_eq_false.2 (fun l hl => by
    have h1 := Hfl.out
    have h2 : l.length ≤ recs.flatten.length := by
      obtain ⟨k, hk⟩ := List.getElem?_of_mem hl
      have := flat_len hk; have := flat_le hk; omega
    simp; omega))
  clear hsum
  go_wp2_with fail
  have hrx : Rd w1 none 0 (ub []) := Rd.none_ _ _
  have hbel1a := hbel1
  clear hbel1
  refine (new_calls Any w1).mono ?_
  rintro e w2 ⟨d, b, V, rfl, hD, hd, hb, hb2⟩
  have hbel2 := below_then hbel1a hb2
  have hwd : w.heap.size ≤ d ∧ w.heap.size ≤ b := ⟨Nat.le_trans hbel1a.size hd, Nat.le_trans hbel1a.size hb⟩
  have hrx2 := hrx.below hb2
  have hr2 := hr.below hbel2
  clear hbel1a hb2 hd hb hrx
  go_wp2_with fail
  refine (whole_calls 4611686018427387903 (by decide) A n cap recs none 0 0 [] w2 hr2 hrx2 (by omega) (by have := Hfl.out; omega) (by decide)).mono ?_
  rintro e w3 ⟨⟨u, kx, rfl, hkx, hown⟩, hb3⟩
  obtain ⟨B3, c3, rfl, hc3, hrd3⟩ := own_rd hown
  have hD3 := hD.move hb3
  have hbel3 := below_then hbel2 hb3
  have Hk := Lib.hid hkx
  have Hlen : Hid ((fileOf 4611686018427387903 recs ++ []).length ≤ 4194304) := Lib.hid (by
    have := Hfl.out; have := hr.len
    rw [List.length_append, fileOf_length]; simp only [List.length_cons, List.length_nil]; omega)
  have Hkb : Hid (kx ≤ 4194304) := Lib.hid (by have := Hk.out; have := Hlen.out; omega)
  clear hown hb3 hD hbel2 hr2 hrx2 hkx
  go_wp2_with fail
  refine (appR_calls 0 hD3 hrd3 (by have := Hkb.out; omega) (fun _ _ => trivial) (by decide)).mono ?_
  rw [last_app Hlen.out]
  rintro e w4 ⟨rfl, ⟨V4, hD4⟩, ho4⟩
  have hbel4 := hbel3.trans (ho4.below hwd.1 hwd.2 hbel3.size)
  clear hD3 hrd3 ho4 hbel3
  go_wp2_with fail
  obtain ⟨D5, hD5⟩ : ∃ D5, D5 = lastD (fileOf 4611686018427387903 recs) := ⟨_, rfl⟩
  obtain ⟨W5, hW5⟩ : ∃ W5, W5 = lastW 4611686018427387903 recs (fileOf 4611686018427387903 recs).length := ⟨_, rfl⟩
  obtain ⟨hopen, hfirst, hG5⟩ := last_clean (g := 4611686018427387903) (recs := recs) (by decide) (by decide) Hlong.out
  have hg5 : W5.gen = 4611686018427387903 := by rw [hW5]; rfl
  have hrec5 : W5.recs = recs := by rw [hW5]; rfl
  have hby5 : W5.bytes = (fileOf 4611686018427387903 recs).length := by rw [hW5]; rfl
  have hst5 : D5.steps ≤ 4 := by rw [hD5]; show 1 ≤ 4; decide
  rw [← hD5, ← hW5] at hopen hG5
  rw [List.append_nil] at hD4
  rw [← hD5] at hD4 hfirst
  refine (open_calls (X := Any) d b false V4 _ w4 hD4 (fun _ _ => trivial) (by rw [hD5]; show 1 + 3 < _; decide)).mono ?_
  intro e w5 hpost
  obtain ⟨p, B, m, cc, rfl, ⟨V5, hD5'⟩, hp5, hpw, hrl, -, ho5⟩ := hpost.some_ (by rw [hopen])
  rw [hopen] at hD5'
  rw [hfirst] at hrl
  change RdL w5 B m recs at hrl
  have hlt4 := hD4.lt
  have hpd : p ≠ d ∧ p ≠ b := ⟨by omega, by omega⟩
  have hwp : w.heap.size ≤ p := Nat.le_trans hbel4.size hpw
  have hbel5 := hbel4.trans (ho5.below hwd.1 hwd.2 hbel4.size)
  have hS : ∀ k, P3 d b p k → w.heap.size ≤ k := fun k hk => by rcases hk with rfl | rfl | rfl <;> omega
  have hm5 : m = n := by rw [← hrl.len, hr.len]
  subst hm5
  have HG : Hid (LastAt w p d b recs 0 w5) := Lib.hid ⟨⟨D5, W5, V5, hD5', hp5, hG5, hrec5, by rw [hby5, fileOf_length], by omega, by rw [hg5]⟩, hbel5⟩
  have hr5 := hr.below hbel5
  clear hpost hD4 hbel4 ho5 hlt4 hpw hD5' hopen hG5 hg5 hrec5 hby5 hst5 hfirst hbel5 hD5 hW5
  go_wp2_with fail
  refine (texts_calls A _ cap recs w5 hr5 (by omega)).mono ?_
  rintro e w6 ⟨⟨v, rfl, hown⟩, hb6⟩
  obtain ⟨B9, c9, rfl, hc9, hrd9⟩ := own_rd hown
  have hrl9 := hrl.below hb6
  have halike := alike_calls B B9 _ _ cc c9 recs recs w6 hrl9 hrd9 hn hn
  rw [decide_eq_true rfl] at halike
  clear hown hrl hr5 hrd9 hrl9
  go_wp2_with fail
  refine halike.mono ?_
  rintro e w7 ⟨rfl, m7, rfl⟩
  have hb7 := below_then hb6 (below_drewN (Below.refl w6.heap.size w6) m7)
  have HG7 : LastAt w p d b recs 0 (w6.drewN m7) := by
    obtain ⟨⟨D, W, V, x1, x2, x3⟩, x4⟩ := HG.out
    exact ⟨⟨D, W, V, x1.move hb7, (hb7.block p (heap_lt x2)).trans x2, x3⟩, below_then x4 hb7⟩
  clear HG hb7 hb6 halike
  generalize w6.drewN m7 = w7 at *
  go_wp2_with fail
  go_loopw [14] (fun i wr => ∃ k : Nat, k ≤ 0 ∧ i = .int .i64 k ∧ LastAt w p d b recs (0 - k) wr) (fun i _ => 0 - (intOf i).toNat)
  case atStart => exact ⟨0, Nat.zero_le _, rfl, HG7⟩
  case round =>
    clear HG7
    obtain ⟨k, hk, rfl, ⟨D, W, V6, hD, hp, hG, hrec, hbytes, hst, hgen⟩, hbel⟩ := hrel
    have hfl := Hfl.out
    have hrl := hr.len
    have hr6 := hr.below hbel
    have hst2 : D.steps ≤ 30 := by omega
    have hrew := wrew_calls p d b false V6 D W A m cap recs wr hp hD hpd (fun k h => h.2) (fun k hk => ⟨trivial, by have := heap_lt hp; omega⟩) (by omega) hr6 (by omega) (by omega) (by omega) (.inr hG.file)
    by_cases hlt : k < 0
    · exact absurd hlt (by omega)
    · obtain rfl : k = 0 := by omega
      have hfull := wRew_full (D := D) (W := W) (l := recs) (by rw [hG.over]; simp) (by rw [Hlong.out]; simp) (by omega)
      rw [hfull] at hrew
      obtain ⟨D3, hApp, -⟩ := hG.app [] (by decide) (by rw [← hG.size]; simp; omega)
      have hWn : (W.recs.length : Int) = (m : Int) := by rw [hrec, hrl]
      have HO := Lib.hid (And.intro hG.over (And.intro hApp (And.intro (show W.bytes ≤ 4503599627370496 by omega) (show W.recs.length ≤ 4503599627370496 by rw [hrec]; omega))))
      clear hG hrec hbytes hst hgen hfull hApp hfl hrl hr6 hD hp
      go_wp2_with fail
      refine hrew.mono ?_
      rintro e w3 ⟨rfl, ⟨V7, hD7⟩, hp7, ho7⟩
      change DiskAt _ w3 d b false V7 D at hD7
      change w3.heap[p]? = some (walCells d W) at hp7
      have hbel7 := hbel.trans (ho7.below hS hbel.size)
      have hcnt := wcount_calls p d b false V7 D W w3 hp7 hD7
      rw [HO.out.1, if_neg (by simp), hWn] at hcnt
      clear ho7 hrew hbel
      go_wp2_with fail
      refine hcnt.mono ?_
      rintro e w8 ⟨rfl, m8, rfl⟩
      have hb3 := below_drewN (Below.refl w3.heap.size w3) m8
      have hD8 := hD7.move hb3
      have hp8 := (hb3.block p (heap_lt hp7)).trans hp7
      have hbel8 := below_then hbel7 hb3
      clear hD7 hp7 hbel7 hb3 hcnt
      generalize w3.drewN m8 = w8 at *
      have happ := wapp_calls p d b false V7 D W none 0 0 [] w8 hp8 hD8 hpd (fun k h => h.2) (fun k hk => ⟨trivial, by have := heap_lt hp8; omega⟩) (by omega) (Rd.none_ _ _) (by decide) HO.out.2.2.1 HO.out.2.2.2
      rw [HO.out.2.1] at happ
      clear hD8 hp8
      go_wp2_with fail
      refine happ.mono ?_
      rintro e w9 ⟨rfl, -, -, ho9⟩
      have hbel9 := hbel8.trans (ho9.below hS hbel8.size)
      clear happ ho9 hbel8
      go_wp2_with fail
      go_ret
      exact ⟨rfl, hbel9⟩

set_option maxHeartbeats 8000000 in
theorem wallast_0t (w : World) (c : Nat) (hc : c < 256) (hm : c % 3 = 0) (A : Option Addr) (n cap : Nat) (recs : List (List UInt8)) (hr : RdL w A n recs) (hn : n ≤ 140737488355328) :
    Calls Try.prog 6 #[.int .u8 (c : Int), .slice A n cap, .bool true] w fun e w' => e = .returned (.bool true) ∧ Below w.heap.size w w' := by
  have hm1 : (c : Int) % 3 = 0 := by omega
  have hm2 : (c : Int).tmod 3 = 0 := by rw [Int.tmod_eq_emod_of_nonneg (by omega)]; exact hm1
  clear hm
  go_enter Try.func6, Try.ntmps6
  go_wp2_with fail
  refine (begun_calls w).mono ?_
  rintro e w1 ⟨rfl, hbel1⟩
  by_cases h60 : 5 < n
  · go_wp2_with fail
    go_ret
    exact ⟨rfl, hbel1⟩
  go_wp2_with fail
  refine (sum0_calls A n cap recs 1000 w1 (hr.below hbel1) hn (by decide)).mono ?_
  rintro e w2 ⟨⟨r, rfl, hsum⟩, rfl⟩
  by_cases hrs : 1000 < r
  · go_wp2_with fail
    go_ret
    exact ⟨rfl, hbel1⟩
  have Hfl : Hid (recs.flatten.length ≤ 1000) := Lib.hid (by rw [← hsum (by omega)]; omega)
  have Hlong : Hid (tooLong recs = false) := Lib.hid (List.any_eq_false.2 (fun l hl => by
    have h1 := Hfl.out
    have h2 : l.length ≤ recs.flatten.length := by
      obtain ⟨k, hk⟩ := List.getElem?_of_mem hl
      have := flat_len hk; have := flat_le hk; omega
    simp; omega))
  clear hsum
  have hbx := (Below.refl w1.heap.size w1)
  go_wp2_with fail
  have hba := (Below.refl w1.heap.size w1).alloc (Nat.le_refl _) (.cells #[.int .u8 1, .int .u8 2, .int .u8 3] 5)
  have hrx : Rd (w1.alloc (.cells #[.int .u8 1, .int .u8 2, .int .u8 3] 5)) (some ⟨w1.heap.size, 0, none⟩) 3 (ub [1, 2, 3]) := Rd.of_row (r := []) (alloc_new w1 _ _ rfl) rfl rfl
  have hbel1a := below_then hbel1 hba
  clear hbx hba hbel1
  generalize w1.alloc (.cells #[.int .u8 1, .int .u8 2, .int .u8 3] 5) = W1 at *
  generalize (some (⟨w1.heap.size, 0, none⟩ : Addr)) = X1 at *
  refine (new_calls Any W1).mono ?_
  rintro e w2 ⟨d, b, V, rfl, hD, hd, hb, hb2⟩
  have hbel2 := below_then hbel1a hb2
  have hwd : w.heap.size ≤ d ∧ w.heap.size ≤ b := ⟨Nat.le_trans hbel1a.size hd, Nat.le_trans hbel1a.size hb⟩
  have hrx2 := hrx.below hb2
  have hr2 := hr.below hbel2
  clear hbel1a hb2 hd hb hrx
  go_wp2_with fail
  refine (whole_calls 4611686018427387903 (by decide) A n cap recs X1 3 3 [1, 2, 3] w2 hr2 hrx2 (by omega) (by have := Hfl.out; omega) (by decide)).mono ?_
  rintro e w3 ⟨⟨u, kx, rfl, hkx, hown⟩, hb3⟩
  obtain ⟨B3, c3, rfl, hc3, hrd3⟩ := own_rd hown
  have hD3 := hD.move hb3
  have hbel3 := below_then hbel2 hb3
  have Hk := Lib.hid hkx
  have Hlen : Hid ((fileOf 4611686018427387903 recs ++ [1, 2, 3]).length ≤ 4194304) := Lib.hid (by
    have := Hfl.out; have := hr.len
    rw [List.length_append, fileOf_length]; simp only [List.length_cons, List.length_nil]; omega)
  have Hkb : Hid (kx ≤ 4194304) := Lib.hid (by have := Hk.out; have := Hlen.out; omega)
  clear hown hb3 hD hbel2 hr2 hrx2 hkx
  go_wp2_with fail
  refine (appR_calls 0 hD3 hrd3 (by have := Hkb.out; omega) (fun _ _ => trivial) (by decide)).mono ?_
  rw [last_app Hlen.out]
  rintro e w4 ⟨rfl, ⟨V4, hD4⟩, ho4⟩
  have hbel4 := hbel3.trans (ho4.below hwd.1 hwd.2 hbel3.size)
  clear hD3 hrd3 ho4 hbel3
  go_wp2_with fail
  refine (open_calls (X := Any) d b false V4 _ w4 hD4 (fun _ _ => trivial) (by show 1 + 3 < _; decide)).mono ?_
  have hfull := last_full (g := 4611686018427387903) (recs := recs) (tail := [1, 2, 3]) (by decide) (by decide) Hlong.out (by decide) (by decide)
  rintro e w5 (⟨W5, p, B, m, c, h1, -⟩ | ⟨-, -, rfl, -, ho5⟩)
  · rw [hfull] at h1; cases h1
  rw [hfull]
  have hbel5 := hbel4.trans (ho5.below hwd.1 hwd.2 hbel4.size)
  clear hfull ho5 hD4 hbel4
  go_wp2_with fail
  go_ret
  exact ⟨rfl, hbel5⟩

set_option maxHeartbeats 8000000 in
theorem wallast_1f (w : World) (c : Nat) (hc : c < 256) (hm : c % 3 = 1) (A : Option Addr) (n cap : Nat) (recs : List (List UInt8)) (hr : RdL w A n recs) (hn : n ≤ 140737488355328) :
    Calls Try.prog 6 #[.int .u8 (c : Int), .slice A n cap, .bool false] w fun e w' => e = .returned (.bool true) ∧ Below w.heap.size w w' := by
  have hm1 : (c : Int) % 3 = 1 := by omega
  have hm2 : (c : Int).tmod 3 = 1 := by rw [Int.tmod_eq_emod_of_nonneg (by omega)]; exact hm1
  clear hm
  go_enter Try.func6, Try.ntmps6
  go_wp2_with fail
  refine (begun_calls w).mono ?_
  rintro e w1 ⟨rfl, hbel1⟩
  by_cases h60 : 5 < n
  · go_wp2_with fail
    go_ret
    exact ⟨rfl, hbel1⟩
  go_wp2_with fail
  refine (sum0_calls A n cap recs 1000 w1 (hr.below hbel1) hn (by decide)).mono ?_
  rintro e w2 ⟨⟨r, rfl, hsum⟩, rfl⟩
  by_cases hrs : 1000 < r
  · go_wp2_with fail
    go_ret
    exact ⟨rfl, hbel1⟩
  have Hfl : Hid (recs.flatten.length ≤ 1000) := Lib.hid (by rw [← hsum (by omega)]; omega)
  have Hlong : Hid (tooLong recs = false) := Lib.hid (List.any_eq_false.2 (fun l hl => by
    have h1 := Hfl.out
    have h2 : l.length ≤ recs.flatten.length := by
      obtain ⟨k, hk⟩ := List.getElem?_of_mem hl
      have := flat_len hk; have := flat_le hk; omega
    simp; omega))
  clear hsum
  go_wp2_with fail
  have hrx : Rd w1 none 0 (ub []) := Rd.none_ _ _
  have hbel1a := hbel1
  clear hbel1
  refine (new_calls Any w1).mono ?_
  rintro e w2 ⟨d, b, V, rfl, hD, hd, hb, hb2⟩
  have hbel2 := below_then hbel1a hb2
  have hwd : w.heap.size ≤ d ∧ w.heap.size ≤ b := ⟨Nat.le_trans hbel1a.size hd, Nat.le_trans hbel1a.size hb⟩
  have hrx2 := hrx.below hb2
  have hr2 := hr.below hbel2
  clear hbel1a hb2 hd hb hrx
  go_wp2_with fail
  refine (whole_calls 4611686018427387902 (by decide) A n cap recs none 0 0 [] w2 hr2 hrx2 (by omega) (by have := Hfl.out; omega) (by decide)).mono ?_
  rintro e w3 ⟨⟨u, kx, rfl, hkx, hown⟩, hb3⟩
  obtain ⟨B3, c3, rfl, hc3, hrd3⟩ := own_rd hown
  have hD3 := hD.move hb3
  have hbel3 := below_then hbel2 hb3
  have Hk := Lib.hid hkx
  have Hlen : Hid ((fileOf 4611686018427387902 recs ++ []).length ≤ 4194304) := Lib.hid (by
    have := Hfl.out; have := hr.len
    rw [List.length_append, fileOf_length]; simp only [List.length_cons, List.length_nil]; omega)
  have Hkb : Hid (kx ≤ 4194304) := Lib.hid (by have := Hk.out; have := Hlen.out; omega)
  clear hown hb3 hD hbel2 hr2 hrx2 hkx
  go_wp2_with fail
  refine (appR_calls 0 hD3 hrd3 (by have := Hkb.out; omega) (fun _ _ => trivial) (by decide)).mono ?_
  rw [last_app Hlen.out]
  rintro e w4 ⟨rfl, ⟨V4, hD4⟩, ho4⟩
  have hbel4 := hbel3.trans (ho4.below hwd.1 hwd.2 hbel3.size)
  clear hD3 hrd3 ho4 hbel3
  go_wp2_with fail
  obtain ⟨D5, hD5⟩ : ∃ D5, D5 = lastD (fileOf 4611686018427387902 recs) := ⟨_, rfl⟩
  obtain ⟨W5, hW5⟩ : ∃ W5, W5 = lastW 4611686018427387902 recs (fileOf 4611686018427387902 recs).length := ⟨_, rfl⟩
  obtain ⟨hopen, hfirst, hG5⟩ := last_clean (g := 4611686018427387902) (recs := recs) (by decide) (by decide) Hlong.out
  have hg5 : W5.gen = 4611686018427387902 := by rw [hW5]; rfl
  have hrec5 : W5.recs = recs := by rw [hW5]; rfl
  have hby5 : W5.bytes = (fileOf 4611686018427387902 recs).length := by rw [hW5]; rfl
  have hst5 : D5.steps ≤ 4 := by rw [hD5]; show 1 ≤ 4; decide
  rw [← hD5, ← hW5] at hopen hG5
  rw [List.append_nil] at hD4
  rw [← hD5] at hD4 hfirst
  refine (open_calls (X := Any) d b false V4 _ w4 hD4 (fun _ _ => trivial) (by rw [hD5]; show 1 + 3 < _; decide)).mono ?_
  intro e w5 hpost
  obtain ⟨p, B, m, cc, rfl, ⟨V5, hD5'⟩, hp5, hpw, hrl, -, ho5⟩ := hpost.some_ (by rw [hopen])
  rw [hopen] at hD5'
  rw [hfirst] at hrl
  change RdL w5 B m recs at hrl
  have hlt4 := hD4.lt
  have hpd : p ≠ d ∧ p ≠ b := ⟨by omega, by omega⟩
  have hwp : w.heap.size ≤ p := Nat.le_trans hbel4.size hpw
  have hbel5 := hbel4.trans (ho5.below hwd.1 hwd.2 hbel4.size)
  have hS : ∀ k, P3 d b p k → w.heap.size ≤ k := fun k hk => by rcases hk with rfl | rfl | rfl <;> omega
  have hm5 : m = n := by rw [← hrl.len, hr.len]
  subst hm5
  have HG : Hid (LastAt w p d b recs 1 w5) := Lib.hid ⟨⟨D5, W5, V5, hD5', hp5, hG5, hrec5, by rw [hby5, fileOf_length], by omega, by rw [hg5]⟩, hbel5⟩
  have hr5 := hr.below hbel5
  clear hpost hD4 hbel4 ho5 hlt4 hpw hD5' hopen hG5 hg5 hrec5 hby5 hst5 hfirst hbel5 hD5 hW5
  go_wp2_with fail
  refine (texts_calls A _ cap recs w5 hr5 (by omega)).mono ?_
  rintro e w6 ⟨⟨v, rfl, hown⟩, hb6⟩
  obtain ⟨B9, c9, rfl, hc9, hrd9⟩ := own_rd hown
  have hrl9 := hrl.below hb6
  have halike := alike_calls B B9 _ _ cc c9 recs recs w6 hrl9 hrd9 hn hn
  rw [decide_eq_true rfl] at halike
  clear hown hrl hr5 hrd9 hrl9
  go_wp2_with fail
  refine halike.mono ?_
  rintro e w7 ⟨rfl, m7, rfl⟩
  have hb7 := below_then hb6 (below_drewN (Below.refl w6.heap.size w6) m7)
  have HG7 : LastAt w p d b recs 1 (w6.drewN m7) := by
    obtain ⟨⟨D, W, V, x1, x2, x3⟩, x4⟩ := HG.out
    exact ⟨⟨D, W, V, x1.move hb7, (hb7.block p (heap_lt x2)).trans x2, x3⟩, below_then x4 hb7⟩
  clear HG hb7 hb6 halike
  generalize w6.drewN m7 = w7 at *
  go_wp2_with fail
  go_loopw [14] (fun i wr => ∃ k : Nat, k ≤ 1 ∧ i = .int .i64 k ∧ LastAt w p d b recs (1 - k) wr) (fun i _ => 1 - (intOf i).toNat)
  case atStart => exact ⟨0, Nat.zero_le _, rfl, HG7⟩
  case round =>
    clear HG7
    obtain ⟨k, hk, rfl, ⟨D, W, V6, hD, hp, hG, hrec, hbytes, hst, hgen⟩, hbel⟩ := hrel
    have hfl := Hfl.out
    have hrl := hr.len
    have hr6 := hr.below hbel
    have hst2 : D.steps ≤ 30 := by omega
    have hrew := wrew_calls p d b false V6 D W A m cap recs wr hp hD hpd (fun k h => h.2) (fun k hk => ⟨trivial, by have := heap_lt hp; omega⟩) (by omega) hr6 (by omega) (by omega) (by omega) (.inr hG.file)
    by_cases hlt : k < 1
    · obtain ⟨D2, hRew, hG2, hst3, hliv2, -, -⟩ := hG.half.rew recs Hlong.out (by omega) (by rw [fileOf_length]; omega)
      rw [hRew] at hrew
      obtain ⟨W2, hW2⟩ : ∃ W2 : WS, W2 = { W with f := otherF W.f, gen := W.gen + 1, recs := recs, bytes := (fileOf (W.gen + 1) recs).length } := ⟨_, rfl⟩
      rw [← hW2] at hrew hG2
      have y2 : W2.bytes = recs.flatten.length + 9 * recs.length + 26 := by rw [hW2]; show (fileOf (W.gen + 1) recs).length = _; rw [fileOf_length]
      have y3 : W2.gen + (1 - (k + 1)) = 4611686018427387903 := by rw [hW2]; show W.gen + 1 + (1 - (k + 1)) = _; omega
      have HY := Lib.hid (And.intro hG2 (And.intro (show W2.recs = recs by rw [hW2]) (And.intro y2 (And.intro (show D2.steps ≤ 10 + 4 * (3 - (1 - (k + 1))) by omega) y3))))
      clear hG hrec hbytes hst hst2 hgen hRew hG2 hst3 hliv2 hW2 y2 y3 hfl hrl hr6 hD hp
      go_wp2_with fail
      refine hrew.mono ?_
      rintro e w3 ⟨rfl, ⟨V7, hD7⟩, hp7, ho7⟩
      have HGo : Hid (LastAt w p d b recs (1 - (k + 1)) w3) := Lib.hid ⟨⟨D2, W2, V7, hD7, hp7, HY.out.1, HY.out.2.1, HY.out.2.2.1, HY.out.2.2.2.1, HY.out.2.2.2.2⟩, hbel.trans (ho7.below hS hbel.size)⟩
      clear hD7 hp7 ho7 hrew hbel HY
      go_wp2_with fail
      go_roundw
      case rel => exact ⟨k + 1, by omega, by go_num, HGo.out⟩
      case measure => simp [intOf]; omega
    · obtain rfl : k = 1 := by omega
      have hfull := wRew_full (D := D) (W := W) (l := recs) (by rw [hG.over]; simp) (by rw [Hlong.out]; simp) (by omega)
      rw [hfull] at hrew
      obtain ⟨D3, hApp, -⟩ := hG.app [] (by decide) (by rw [← hG.size]; simp; omega)
      have hWn : (W.recs.length : Int) = (m : Int) := by rw [hrec, hrl]
      have HO := Lib.hid (And.intro hG.over (And.intro hApp (And.intro (show W.bytes ≤ 4503599627370496 by omega) (show W.recs.length ≤ 4503599627370496 by rw [hrec]; omega))))
      clear hG hrec hbytes hst hgen hfull hApp hfl hrl hr6 hD hp
      go_wp2_with fail
      refine hrew.mono ?_
      rintro e w3 ⟨rfl, ⟨V7, hD7⟩, hp7, ho7⟩
      change DiskAt _ w3 d b false V7 D at hD7
      change w3.heap[p]? = some (walCells d W) at hp7
      have hbel7 := hbel.trans (ho7.below hS hbel.size)
      have hcnt := wcount_calls p d b false V7 D W w3 hp7 hD7
      rw [HO.out.1, if_neg (by simp), hWn] at hcnt
      clear ho7 hrew hbel
      go_wp2_with fail
      refine hcnt.mono ?_
      rintro e w8 ⟨rfl, m8, rfl⟩
      have hb3 := below_drewN (Below.refl w3.heap.size w3) m8
      have hD8 := hD7.move hb3
      have hp8 := (hb3.block p (heap_lt hp7)).trans hp7
      have hbel8 := below_then hbel7 hb3
      clear hD7 hp7 hbel7 hb3 hcnt
      generalize w3.drewN m8 = w8 at *
      have happ := wapp_calls p d b false V7 D W none 0 0 [] w8 hp8 hD8 hpd (fun k h => h.2) (fun k hk => ⟨trivial, by have := heap_lt hp8; omega⟩) (by omega) (Rd.none_ _ _) (by decide) HO.out.2.2.1 HO.out.2.2.2
      rw [HO.out.2.1] at happ
      clear hD8 hp8
      go_wp2_with fail
      refine happ.mono ?_
      rintro e w9 ⟨rfl, -, -, ho9⟩
      have hbel9 := hbel8.trans (ho9.below hS hbel8.size)
      clear happ ho9 hbel8
      go_wp2_with fail
      go_ret
      exact ⟨rfl, hbel9⟩

set_option maxHeartbeats 8000000 in
theorem wallast_1t (w : World) (c : Nat) (hc : c < 256) (hm : c % 3 = 1) (A : Option Addr) (n cap : Nat) (recs : List (List UInt8)) (hr : RdL w A n recs) (hn : n ≤ 140737488355328) :
    Calls Try.prog 6 #[.int .u8 (c : Int), .slice A n cap, .bool true] w fun e w' => e = .returned (.bool true) ∧ Below w.heap.size w w' := by
  have hm1 : (c : Int) % 3 = 1 := by omega
  have hm2 : (c : Int).tmod 3 = 1 := by rw [Int.tmod_eq_emod_of_nonneg (by omega)]; exact hm1
  clear hm
  go_enter Try.func6, Try.ntmps6
  go_wp2_with fail
  refine (begun_calls w).mono ?_
  rintro e w1 ⟨rfl, hbel1⟩
  by_cases h60 : 5 < n
  · go_wp2_with fail
    go_ret
    exact ⟨rfl, hbel1⟩
  go_wp2_with fail
  refine (sum0_calls A n cap recs 1000 w1 (hr.below hbel1) hn (by decide)).mono ?_
  rintro e w2 ⟨⟨r, rfl, hsum⟩, rfl⟩
  by_cases hrs : 1000 < r
  · go_wp2_with fail
    go_ret
    exact ⟨rfl, hbel1⟩
  have Hfl : Hid (recs.flatten.length ≤ 1000) := Lib.hid (by rw [← hsum (by omega)]; omega)
  have Hlong : Hid (tooLong recs = false) := Lib.hid (List.any_eq_false.2 (fun l hl => by
    have h1 := Hfl.out
    have h2 : l.length ≤ recs.flatten.length := by
      obtain ⟨k, hk⟩ := List.getElem?_of_mem hl
      have := flat_len hk; have := flat_le hk; omega
    simp; omega))
  clear hsum
  have hbx := (Below.refl w1.heap.size w1)
  go_wp2_with fail
  have hba := (Below.refl w1.heap.size w1).alloc (Nat.le_refl _) (.cells #[.int .u8 1, .int .u8 2, .int .u8 3] 5)
  have hrx : Rd (w1.alloc (.cells #[.int .u8 1, .int .u8 2, .int .u8 3] 5)) (some ⟨w1.heap.size, 0, none⟩) 3 (ub [1, 2, 3]) := Rd.of_row (r := []) (alloc_new w1 _ _ rfl) rfl rfl
  have hbel1a := below_then hbel1 hba
  clear hbx hba hbel1
  generalize w1.alloc (.cells #[.int .u8 1, .int .u8 2, .int .u8 3] 5) = W1 at *
  generalize (some (⟨w1.heap.size, 0, none⟩ : Addr)) = X1 at *
  refine (new_calls Any W1).mono ?_
  rintro e w2 ⟨d, b, V, rfl, hD, hd, hb, hb2⟩
  have hbel2 := below_then hbel1a hb2
  have hwd : w.heap.size ≤ d ∧ w.heap.size ≤ b := ⟨Nat.le_trans hbel1a.size hd, Nat.le_trans hbel1a.size hb⟩
  have hrx2 := hrx.below hb2
  have hr2 := hr.below hbel2
  clear hbel1a hb2 hd hb hrx
  go_wp2_with fail
  refine (whole_calls 4611686018427387902 (by decide) A n cap recs X1 3 3 [1, 2, 3] w2 hr2 hrx2 (by omega) (by have := Hfl.out; omega) (by decide)).mono ?_
  rintro e w3 ⟨⟨u, kx, rfl, hkx, hown⟩, hb3⟩
  obtain ⟨B3, c3, rfl, hc3, hrd3⟩ := own_rd hown
  have hD3 := hD.move hb3
  have hbel3 := below_then hbel2 hb3
  have Hk := Lib.hid hkx
  have Hlen : Hid ((fileOf 4611686018427387902 recs ++ [1, 2, 3]).length ≤ 4194304) := Lib.hid (by
    have := Hfl.out; have := hr.len
    rw [List.length_append, fileOf_length]; simp only [List.length_cons, List.length_nil]; omega)
  have Hkb : Hid (kx ≤ 4194304) := Lib.hid (by have := Hk.out; have := Hlen.out; omega)
  clear hown hb3 hD hbel2 hr2 hrx2 hkx
  go_wp2_with fail
  refine (appR_calls 0 hD3 hrd3 (by have := Hkb.out; omega) (fun _ _ => trivial) (by decide)).mono ?_
  rw [last_app Hlen.out]
  rintro e w4 ⟨rfl, ⟨V4, hD4⟩, ho4⟩
  have hbel4 := hbel3.trans (ho4.below hwd.1 hwd.2 hbel3.size)
  clear hD3 hrd3 ho4 hbel3
  go_wp2_with fail
  obtain ⟨D5, W5, hopen, hG5, hg5, hrec5, hby5, hst5⟩ := last_tail (g := 4611686018427387902) (recs := recs) (tail := [1, 2, 3]) (by decide) (by decide) Hlong.out (by decide) (by decide) (by have := Hfl.out; have := hr.len; rw [fileOf_length]; omega)
  have hfirst := last_first (g := 4611686018427387902) (recs := recs) (tail := [1, 2, 3]) (by decide) (by decide) Hlong.out (by decide)
  refine (open_calls (X := Any) d b false V4 _ w4 hD4 (fun _ _ => trivial) (by show 1 + 3 < _; decide)).mono ?_
  intro e w5 hpost
  obtain ⟨p, B, m, cc, rfl, ⟨V5, hD5'⟩, hp5, hpw, hrl, -, ho5⟩ := hpost.some_ (by rw [hopen])
  rw [hopen] at hD5'
  rw [hfirst] at hrl
  change RdL w5 B m recs at hrl
  have hlt4 := hD4.lt
  have hpd : p ≠ d ∧ p ≠ b := ⟨by omega, by omega⟩
  have hwp : w.heap.size ≤ p := Nat.le_trans hbel4.size hpw
  have hbel5 := hbel4.trans (ho5.below hwd.1 hwd.2 hbel4.size)
  have hS : ∀ k, P3 d b p k → w.heap.size ≤ k := fun k hk => by rcases hk with rfl | rfl | rfl <;> omega
  have hm5 : m = n := by rw [← hrl.len, hr.len]
  subst hm5
  have HG : Hid (LastAt w p d b recs 0 w5) := Lib.hid ⟨⟨D5, W5, V5, hD5', hp5, hG5, hrec5, by rw [hby5, fileOf_length], by omega, by rw [hg5]⟩, hbel5⟩
  have hr5 := hr.below hbel5
  clear hpost hD4 hbel4 ho5 hlt4 hpw hD5' hopen hG5 hg5 hrec5 hby5 hst5 hfirst hbel5 
  go_wp2_with fail
  refine (texts_calls A _ cap recs w5 hr5 (by omega)).mono ?_
  rintro e w6 ⟨⟨v, rfl, hown⟩, hb6⟩
  obtain ⟨B9, c9, rfl, hc9, hrd9⟩ := own_rd hown
  have hrl9 := hrl.below hb6
  have halike := alike_calls B B9 _ _ cc c9 recs recs w6 hrl9 hrd9 hn hn
  rw [decide_eq_true rfl] at halike
  clear hown hrl hr5 hrd9 hrl9
  go_wp2_with fail
  refine halike.mono ?_
  rintro e w7 ⟨rfl, m7, rfl⟩
  have hb7 := below_then hb6 (below_drewN (Below.refl w6.heap.size w6) m7)
  have HG7 : LastAt w p d b recs 0 (w6.drewN m7) := by
    obtain ⟨⟨D, W, V, x1, x2, x3⟩, x4⟩ := HG.out
    exact ⟨⟨D, W, V, x1.move hb7, (hb7.block p (heap_lt x2)).trans x2, x3⟩, below_then x4 hb7⟩
  clear HG hb7 hb6 halike
  generalize w6.drewN m7 = w7 at *
  go_wp2_with fail
  go_loopw [14] (fun i wr => ∃ k : Nat, k ≤ 0 ∧ i = .int .i64 k ∧ LastAt w p d b recs (0 - k) wr) (fun i _ => 0 - (intOf i).toNat)
  case atStart => exact ⟨0, Nat.zero_le _, rfl, HG7⟩
  case round =>
    clear HG7
    obtain ⟨k, hk, rfl, ⟨D, W, V6, hD, hp, hG, hrec, hbytes, hst, hgen⟩, hbel⟩ := hrel
    have hfl := Hfl.out
    have hrl := hr.len
    have hr6 := hr.below hbel
    have hst2 : D.steps ≤ 30 := by omega
    have hrew := wrew_calls p d b false V6 D W A m cap recs wr hp hD hpd (fun k h => h.2) (fun k hk => ⟨trivial, by have := heap_lt hp; omega⟩) (by omega) hr6 (by omega) (by omega) (by omega) (.inr hG.file)
    by_cases hlt : k < 0
    · exact absurd hlt (by omega)
    · obtain rfl : k = 0 := by omega
      have hfull := wRew_full (D := D) (W := W) (l := recs) (by rw [hG.over]; simp) (by rw [Hlong.out]; simp) (by omega)
      rw [hfull] at hrew
      obtain ⟨D3, hApp, -⟩ := hG.app [] (by decide) (by rw [← hG.size]; simp; omega)
      have hWn : (W.recs.length : Int) = (m : Int) := by rw [hrec, hrl]
      have HO := Lib.hid (And.intro hG.over (And.intro hApp (And.intro (show W.bytes ≤ 4503599627370496 by omega) (show W.recs.length ≤ 4503599627370496 by rw [hrec]; omega))))
      clear hG hrec hbytes hst hgen hfull hApp hfl hrl hr6 hD hp
      go_wp2_with fail
      refine hrew.mono ?_
      rintro e w3 ⟨rfl, ⟨V7, hD7⟩, hp7, ho7⟩
      change DiskAt _ w3 d b false V7 D at hD7
      change w3.heap[p]? = some (walCells d W) at hp7
      have hbel7 := hbel.trans (ho7.below hS hbel.size)
      have hcnt := wcount_calls p d b false V7 D W w3 hp7 hD7
      rw [HO.out.1, if_neg (by simp), hWn] at hcnt
      clear ho7 hrew hbel
      go_wp2_with fail
      refine hcnt.mono ?_
      rintro e w8 ⟨rfl, m8, rfl⟩
      have hb3 := below_drewN (Below.refl w3.heap.size w3) m8
      have hD8 := hD7.move hb3
      have hp8 := (hb3.block p (heap_lt hp7)).trans hp7
      have hbel8 := below_then hbel7 hb3
      clear hD7 hp7 hbel7 hb3 hcnt
      generalize w3.drewN m8 = w8 at *
      have happ := wapp_calls p d b false V7 D W none 0 0 [] w8 hp8 hD8 hpd (fun k h => h.2) (fun k hk => ⟨trivial, by have := heap_lt hp8; omega⟩) (by omega) (Rd.none_ _ _) (by decide) HO.out.2.2.1 HO.out.2.2.2
      rw [HO.out.2.1] at happ
      clear hD8 hp8
      go_wp2_with fail
      refine happ.mono ?_
      rintro e w9 ⟨rfl, -, -, ho9⟩
      have hbel9 := hbel8.trans (ho9.below hS hbel8.size)
      clear happ ho9 hbel8
      go_wp2_with fail
      go_ret
      exact ⟨rfl, hbel9⟩

set_option maxHeartbeats 8000000 in
theorem wallast_2f (w : World) (c : Nat) (hc : c < 256) (hm : c % 3 = 2) (A : Option Addr) (n cap : Nat) (recs : List (List UInt8)) (hr : RdL w A n recs) (hn : n ≤ 140737488355328) :
    Calls Try.prog 6 #[.int .u8 (c : Int), .slice A n cap, .bool false] w fun e w' => e = .returned (.bool true) ∧ Below w.heap.size w w' := by
  have hm1 : (c : Int) % 3 = 2 := by omega
  have hm2 : (c : Int).tmod 3 = 2 := by rw [Int.tmod_eq_emod_of_nonneg (by omega)]; exact hm1
  clear hm
  go_enter Try.func6, Try.ntmps6
  go_wp2_with fail
  refine (begun_calls w).mono ?_
  rintro e w1 ⟨rfl, hbel1⟩
  by_cases h60 : 5 < n
  · go_wp2_with fail
    go_ret
    exact ⟨rfl, hbel1⟩
  go_wp2_with fail
  refine (sum0_calls A n cap recs 1000 w1 (hr.below hbel1) hn (by decide)).mono ?_
  rintro e w2 ⟨⟨r, rfl, hsum⟩, rfl⟩
  by_cases hrs : 1000 < r
  · go_wp2_with fail
    go_ret
    exact ⟨rfl, hbel1⟩
  have Hfl : Hid (recs.flatten.length ≤ 1000) := Lib.hid (by rw [← hsum (by omega)]; omega)
  have Hlong : Hid (tooLong recs = false) := Lib.hid (List.any_eq_false.2 (fun l hl => by
    have h1 := Hfl.out
    have h2 : l.length ≤ recs.flatten.length := by
      obtain ⟨k, hk⟩ := List.getElem?_of_mem hl
      have := flat_len hk; have := flat_le hk; omega
    simp; omega))
  clear hsum
  go_wp2_with fail
  have hrx : Rd w1 none 0 (ub []) := Rd.none_ _ _
  have hbel1a := hbel1
  clear hbel1
  refine (new_calls Any w1).mono ?_
  rintro e w2 ⟨d, b, V, rfl, hD, hd, hb, hb2⟩
  have hbel2 := below_then hbel1a hb2
  have hwd : w.heap.size ≤ d ∧ w.heap.size ≤ b := ⟨Nat.le_trans hbel1a.size hd, Nat.le_trans hbel1a.size hb⟩
  have hrx2 := hrx.below hb2
  have hr2 := hr.below hbel2
  clear hbel1a hb2 hd hb hrx
  go_wp2_with fail
  refine (whole_calls 4611686018427387901 (by decide) A n cap recs none 0 0 [] w2 hr2 hrx2 (by omega) (by have := Hfl.out; omega) (by decide)).mono ?_
  rintro e w3 ⟨⟨u, kx, rfl, hkx, hown⟩, hb3⟩
  obtain ⟨B3, c3, rfl, hc3, hrd3⟩ := own_rd hown
  have hD3 := hD.move hb3
  have hbel3 := below_then hbel2 hb3
  have Hk := Lib.hid hkx
  have Hlen : Hid ((fileOf 4611686018427387901 recs ++ []).length ≤ 4194304) := Lib.hid (by
    have := Hfl.out; have := hr.len
    rw [List.length_append, fileOf_length]; simp only [List.length_cons, List.length_nil]; omega)
  have Hkb : Hid (kx ≤ 4194304) := Lib.hid (by have := Hk.out; have := Hlen.out; omega)
  clear hown hb3 hD hbel2 hr2 hrx2 hkx
  go_wp2_with fail
  refine (appR_calls 0 hD3 hrd3 (by have := Hkb.out; omega) (fun _ _ => trivial) (by decide)).mono ?_
  rw [last_app Hlen.out]
  rintro e w4 ⟨rfl, ⟨V4, hD4⟩, ho4⟩
  have hbel4 := hbel3.trans (ho4.below hwd.1 hwd.2 hbel3.size)
  clear hD3 hrd3 ho4 hbel3
  go_wp2_with fail
  obtain ⟨D5, hD5⟩ : ∃ D5, D5 = lastD (fileOf 4611686018427387901 recs) := ⟨_, rfl⟩
  obtain ⟨W5, hW5⟩ : ∃ W5, W5 = lastW 4611686018427387901 recs (fileOf 4611686018427387901 recs).length := ⟨_, rfl⟩
  obtain ⟨hopen, hfirst, hG5⟩ := last_clean (g := 4611686018427387901) (recs := recs) (by decide) (by decide) Hlong.out
  have hg5 : W5.gen = 4611686018427387901 := by rw [hW5]; rfl
  have hrec5 : W5.recs = recs := by rw [hW5]; rfl
  have hby5 : W5.bytes = (fileOf 4611686018427387901 recs).length := by rw [hW5]; rfl
  have hst5 : D5.steps ≤ 4 := by rw [hD5]; show 1 ≤ 4; decide
  rw [← hD5, ← hW5] at hopen hG5
  rw [List.append_nil] at hD4
  rw [← hD5] at hD4 hfirst
  refine (open_calls (X := Any) d b false V4 _ w4 hD4 (fun _ _ => trivial) (by rw [hD5]; show 1 + 3 < _; decide)).mono ?_
  intro e w5 hpost
  obtain ⟨p, B, m, cc, rfl, ⟨V5, hD5'⟩, hp5, hpw, hrl, -, ho5⟩ := hpost.some_ (by rw [hopen])
  rw [hopen] at hD5'
  rw [hfirst] at hrl
  change RdL w5 B m recs at hrl
  have hlt4 := hD4.lt
  have hpd : p ≠ d ∧ p ≠ b := ⟨by omega, by omega⟩
  have hwp : w.heap.size ≤ p := Nat.le_trans hbel4.size hpw
  have hbel5 := hbel4.trans (ho5.below hwd.1 hwd.2 hbel4.size)
  have hS : ∀ k, P3 d b p k → w.heap.size ≤ k := fun k hk => by rcases hk with rfl | rfl | rfl <;> omega
  have hm5 : m = n := by rw [← hrl.len, hr.len]
  subst hm5
  have HG : Hid (LastAt w p d b recs 2 w5) := Lib.hid ⟨⟨D5, W5, V5, hD5', hp5, hG5, hrec5, by rw [hby5, fileOf_length], by omega, by rw [hg5]⟩, hbel5⟩
  have hr5 := hr.below hbel5
  clear hpost hD4 hbel4 ho5 hlt4 hpw hD5' hopen hG5 hg5 hrec5 hby5 hst5 hfirst hbel5 hD5 hW5
  go_wp2_with fail
  refine (texts_calls A _ cap recs w5 hr5 (by omega)).mono ?_
  rintro e w6 ⟨⟨v, rfl, hown⟩, hb6⟩
  obtain ⟨B9, c9, rfl, hc9, hrd9⟩ := own_rd hown
  have hrl9 := hrl.below hb6
  have halike := alike_calls B B9 _ _ cc c9 recs recs w6 hrl9 hrd9 hn hn
  rw [decide_eq_true rfl] at halike
  clear hown hrl hr5 hrd9 hrl9
  go_wp2_with fail
  refine halike.mono ?_
  rintro e w7 ⟨rfl, m7, rfl⟩
  have hb7 := below_then hb6 (below_drewN (Below.refl w6.heap.size w6) m7)
  have HG7 : LastAt w p d b recs 2 (w6.drewN m7) := by
    obtain ⟨⟨D, W, V, x1, x2, x3⟩, x4⟩ := HG.out
    exact ⟨⟨D, W, V, x1.move hb7, (hb7.block p (heap_lt x2)).trans x2, x3⟩, below_then x4 hb7⟩
  clear HG hb7 hb6 halike
  generalize w6.drewN m7 = w7 at *
  go_wp2_with fail
  go_loopw [14] (fun i wr => ∃ k : Nat, k ≤ 2 ∧ i = .int .i64 k ∧ LastAt w p d b recs (2 - k) wr) (fun i _ => 2 - (intOf i).toNat)
  case atStart => exact ⟨0, Nat.zero_le _, rfl, HG7⟩
  case round =>
    clear HG7
    obtain ⟨k, hk, rfl, ⟨D, W, V6, hD, hp, hG, hrec, hbytes, hst, hgen⟩, hbel⟩ := hrel
    have hfl := Hfl.out
    have hrl := hr.len
    have hr6 := hr.below hbel
    have hst2 : D.steps ≤ 30 := by omega
    have hrew := wrew_calls p d b false V6 D W A m cap recs wr hp hD hpd (fun k h => h.2) (fun k hk => ⟨trivial, by have := heap_lt hp; omega⟩) (by omega) hr6 (by omega) (by omega) (by omega) (.inr hG.file)
    by_cases hlt : k < 2
    · obtain ⟨D2, hRew, hG2, hst3, hliv2, -, -⟩ := hG.half.rew recs Hlong.out (by omega) (by rw [fileOf_length]; omega)
      rw [hRew] at hrew
      obtain ⟨W2, hW2⟩ : ∃ W2 : WS, W2 = { W with f := otherF W.f, gen := W.gen + 1, recs := recs, bytes := (fileOf (W.gen + 1) recs).length } := ⟨_, rfl⟩
      rw [← hW2] at hrew hG2
      have y2 : W2.bytes = recs.flatten.length + 9 * recs.length + 26 := by rw [hW2]; show (fileOf (W.gen + 1) recs).length = _; rw [fileOf_length]
      have y3 : W2.gen + (2 - (k + 1)) = 4611686018427387903 := by rw [hW2]; show W.gen + 1 + (2 - (k + 1)) = _; omega
      have HY := Lib.hid (And.intro hG2 (And.intro (show W2.recs = recs by rw [hW2]) (And.intro y2 (And.intro (show D2.steps ≤ 10 + 4 * (3 - (2 - (k + 1))) by omega) y3))))
      clear hG hrec hbytes hst hst2 hgen hRew hG2 hst3 hliv2 hW2 y2 y3 hfl hrl hr6 hD hp
      go_wp2_with fail
      refine hrew.mono ?_
      rintro e w3 ⟨rfl, ⟨V7, hD7⟩, hp7, ho7⟩
      have HGo : Hid (LastAt w p d b recs (2 - (k + 1)) w3) := Lib.hid ⟨⟨D2, W2, V7, hD7, hp7, HY.out.1, HY.out.2.1, HY.out.2.2.1, HY.out.2.2.2.1, HY.out.2.2.2.2⟩, hbel.trans (ho7.below hS hbel.size)⟩
      clear hD7 hp7 ho7 hrew hbel HY
      go_wp2_with fail
      go_roundw
      case rel => exact ⟨k + 1, by omega, by go_num, HGo.out⟩
      case measure => simp [intOf]; omega
    · obtain rfl : k = 2 := by omega
      have hfull := wRew_full (D := D) (W := W) (l := recs) (by rw [hG.over]; simp) (by rw [Hlong.out]; simp) (by omega)
      rw [hfull] at hrew
      obtain ⟨D3, hApp, -⟩ := hG.app [] (by decide) (by rw [← hG.size]; simp; omega)
      have hWn : (W.recs.length : Int) = (m : Int) := by rw [hrec, hrl]
      have HO := Lib.hid (And.intro hG.over (And.intro hApp (And.intro (show W.bytes ≤ 4503599627370496 by omega) (show W.recs.length ≤ 4503599627370496 by rw [hrec]; omega))))
      clear hG hrec hbytes hst hgen hfull hApp hfl hrl hr6 hD hp
      go_wp2_with fail
      refine hrew.mono ?_
      rintro e w3 ⟨rfl, ⟨V7, hD7⟩, hp7, ho7⟩
      change DiskAt _ w3 d b false V7 D at hD7
      change w3.heap[p]? = some (walCells d W) at hp7
      have hbel7 := hbel.trans (ho7.below hS hbel.size)
      have hcnt := wcount_calls p d b false V7 D W w3 hp7 hD7
      rw [HO.out.1, if_neg (by simp), hWn] at hcnt
      clear ho7 hrew hbel
      go_wp2_with fail
      refine hcnt.mono ?_
      rintro e w8 ⟨rfl, m8, rfl⟩
      have hb3 := below_drewN (Below.refl w3.heap.size w3) m8
      have hD8 := hD7.move hb3
      have hp8 := (hb3.block p (heap_lt hp7)).trans hp7
      have hbel8 := below_then hbel7 hb3
      clear hD7 hp7 hbel7 hb3 hcnt
      generalize w3.drewN m8 = w8 at *
      have happ := wapp_calls p d b false V7 D W none 0 0 [] w8 hp8 hD8 hpd (fun k h => h.2) (fun k hk => ⟨trivial, by have := heap_lt hp8; omega⟩) (by omega) (Rd.none_ _ _) (by decide) HO.out.2.2.1 HO.out.2.2.2
      rw [HO.out.2.1] at happ
      clear hD8 hp8
      go_wp2_with fail
      refine happ.mono ?_
      rintro e w9 ⟨rfl, -, -, ho9⟩
      have hbel9 := hbel8.trans (ho9.below hS hbel8.size)
      clear happ ho9 hbel8
      go_wp2_with fail
      go_ret
      exact ⟨rfl, hbel9⟩

set_option maxHeartbeats 8000000 in
theorem wallast_2t (w : World) (c : Nat) (hc : c < 256) (hm : c % 3 = 2) (A : Option Addr) (n cap : Nat) (recs : List (List UInt8)) (hr : RdL w A n recs) (hn : n ≤ 140737488355328) :
    Calls Try.prog 6 #[.int .u8 (c : Int), .slice A n cap, .bool true] w fun e w' => e = .returned (.bool true) ∧ Below w.heap.size w w' := by
  have hm1 : (c : Int) % 3 = 2 := by omega
  have hm2 : (c : Int).tmod 3 = 2 := by rw [Int.tmod_eq_emod_of_nonneg (by omega)]; exact hm1
  clear hm
  go_enter Try.func6, Try.ntmps6
  go_wp2_with fail
  refine (begun_calls w).mono ?_
  rintro e w1 ⟨rfl, hbel1⟩
  by_cases h60 : 5 < n
  · go_wp2_with fail
    go_ret
    exact ⟨rfl, hbel1⟩
  go_wp2_with fail
  refine (sum0_calls A n cap recs 1000 w1 (hr.below hbel1) hn (by decide)).mono ?_
  rintro e w2 ⟨⟨r, rfl, hsum⟩, rfl⟩
  by_cases hrs : 1000 < r
  · go_wp2_with fail
    go_ret
    exact ⟨rfl, hbel1⟩
  have Hfl : Hid (recs.flatten.length ≤ 1000) := Lib.hid (by rw [← hsum (by omega)]; omega)
  have Hlong : Hid (tooLong recs = false) := Lib.hid (List.any_eq_false.2 (fun l hl => by
    have h1 := Hfl.out
    have h2 : l.length ≤ recs.flatten.length := by
      obtain ⟨k, hk⟩ := List.getElem?_of_mem hl
      have := flat_len hk; have := flat_le hk; omega
    simp; omega))
  clear hsum
  have hbx := (Below.refl w1.heap.size w1)
  go_wp2_with fail
  have hba := (Below.refl w1.heap.size w1).alloc (Nat.le_refl _) (.cells #[.int .u8 1, .int .u8 2, .int .u8 3] 5)
  have hrx : Rd (w1.alloc (.cells #[.int .u8 1, .int .u8 2, .int .u8 3] 5)) (some ⟨w1.heap.size, 0, none⟩) 3 (ub [1, 2, 3]) := Rd.of_row (r := []) (alloc_new w1 _ _ rfl) rfl rfl
  have hbel1a := below_then hbel1 hba
  clear hbx hba hbel1
  generalize w1.alloc (.cells #[.int .u8 1, .int .u8 2, .int .u8 3] 5) = W1 at *
  generalize (some (⟨w1.heap.size, 0, none⟩ : Addr)) = X1 at *
  refine (new_calls Any W1).mono ?_
  rintro e w2 ⟨d, b, V, rfl, hD, hd, hb, hb2⟩
  have hbel2 := below_then hbel1a hb2
  have hwd : w.heap.size ≤ d ∧ w.heap.size ≤ b := ⟨Nat.le_trans hbel1a.size hd, Nat.le_trans hbel1a.size hb⟩
  have hrx2 := hrx.below hb2
  have hr2 := hr.below hbel2
  clear hbel1a hb2 hd hb hrx
  go_wp2_with fail
  refine (whole_calls 4611686018427387901 (by decide) A n cap recs X1 3 3 [1, 2, 3] w2 hr2 hrx2 (by omega) (by have := Hfl.out; omega) (by decide)).mono ?_
  rintro e w3 ⟨⟨u, kx, rfl, hkx, hown⟩, hb3⟩
  obtain ⟨B3, c3, rfl, hc3, hrd3⟩ := own_rd hown
  have hD3 := hD.move hb3
  have hbel3 := below_then hbel2 hb3
  have Hk := Lib.hid hkx
  have Hlen : Hid ((fileOf 4611686018427387901 recs ++ [1, 2, 3]).length ≤ 4194304) := Lib.hid (by
    have := Hfl.out; have := hr.len
    rw [List.length_append, fileOf_length]; simp only [List.length_cons, List.length_nil]; omega)
  have Hkb : Hid (kx ≤ 4194304) := Lib.hid (by have := Hk.out; have := Hlen.out; omega)
  clear hown hb3 hD hbel2 hr2 hrx2 hkx
  go_wp2_with fail
  refine (appR_calls 0 hD3 hrd3 (by have := Hkb.out; omega) (fun _ _ => trivial) (by decide)).mono ?_
  rw [last_app Hlen.out]
  rintro e w4 ⟨rfl, ⟨V4, hD4⟩, ho4⟩
  have hbel4 := hbel3.trans (ho4.below hwd.1 hwd.2 hbel3.size)
  clear hD3 hrd3 ho4 hbel3
  go_wp2_with fail
  obtain ⟨D5, W5, hopen, hG5, hg5, hrec5, hby5, hst5⟩ := last_tail (g := 4611686018427387901) (recs := recs) (tail := [1, 2, 3]) (by decide) (by decide) Hlong.out (by decide) (by decide) (by have := Hfl.out; have := hr.len; rw [fileOf_length]; omega)
  have hfirst := last_first (g := 4611686018427387901) (recs := recs) (tail := [1, 2, 3]) (by decide) (by decide) Hlong.out (by decide)
  refine (open_calls (X := Any) d b false V4 _ w4 hD4 (fun _ _ => trivial) (by show 1 + 3 < _; decide)).mono ?_
  intro e w5 hpost
  obtain ⟨p, B, m, cc, rfl, ⟨V5, hD5'⟩, hp5, hpw, hrl, -, ho5⟩ := hpost.some_ (by rw [hopen])
  rw [hopen] at hD5'
  rw [hfirst] at hrl
  change RdL w5 B m recs at hrl
  have hlt4 := hD4.lt
  have hpd : p ≠ d ∧ p ≠ b := ⟨by omega, by omega⟩
  have hwp : w.heap.size ≤ p := Nat.le_trans hbel4.size hpw
  have hbel5 := hbel4.trans (ho5.below hwd.1 hwd.2 hbel4.size)
  have hS : ∀ k, P3 d b p k → w.heap.size ≤ k := fun k hk => by rcases hk with rfl | rfl | rfl <;> omega
  have hm5 : m = n := by rw [← hrl.len, hr.len]
  subst hm5
  have HG : Hid (LastAt w p d b recs 1 w5) := Lib.hid ⟨⟨D5, W5, V5, hD5', hp5, hG5, hrec5, by rw [hby5, fileOf_length], by omega, by rw [hg5]⟩, hbel5⟩
  have hr5 := hr.below hbel5
  clear hpost hD4 hbel4 ho5 hlt4 hpw hD5' hopen hG5 hg5 hrec5 hby5 hst5 hfirst hbel5 
  go_wp2_with fail
  refine (texts_calls A _ cap recs w5 hr5 (by omega)).mono ?_
  rintro e w6 ⟨⟨v, rfl, hown⟩, hb6⟩
  obtain ⟨B9, c9, rfl, hc9, hrd9⟩ := own_rd hown
  have hrl9 := hrl.below hb6
  have halike := alike_calls B B9 _ _ cc c9 recs recs w6 hrl9 hrd9 hn hn
  rw [decide_eq_true rfl] at halike
  clear hown hrl hr5 hrd9 hrl9
  go_wp2_with fail
  refine halike.mono ?_
  rintro e w7 ⟨rfl, m7, rfl⟩
  have hb7 := below_then hb6 (below_drewN (Below.refl w6.heap.size w6) m7)
  have HG7 : LastAt w p d b recs 1 (w6.drewN m7) := by
    obtain ⟨⟨D, W, V, x1, x2, x3⟩, x4⟩ := HG.out
    exact ⟨⟨D, W, V, x1.move hb7, (hb7.block p (heap_lt x2)).trans x2, x3⟩, below_then x4 hb7⟩
  clear HG hb7 hb6 halike
  generalize w6.drewN m7 = w7 at *
  go_wp2_with fail
  go_loopw [14] (fun i wr => ∃ k : Nat, k ≤ 1 ∧ i = .int .i64 k ∧ LastAt w p d b recs (1 - k) wr) (fun i _ => 1 - (intOf i).toNat)
  case atStart => exact ⟨0, Nat.zero_le _, rfl, HG7⟩
  case round =>
    clear HG7
    obtain ⟨k, hk, rfl, ⟨D, W, V6, hD, hp, hG, hrec, hbytes, hst, hgen⟩, hbel⟩ := hrel
    have hfl := Hfl.out
    have hrl := hr.len
    have hr6 := hr.below hbel
    have hst2 : D.steps ≤ 30 := by omega
    have hrew := wrew_calls p d b false V6 D W A m cap recs wr hp hD hpd (fun k h => h.2) (fun k hk => ⟨trivial, by have := heap_lt hp; omega⟩) (by omega) hr6 (by omega) (by omega) (by omega) (.inr hG.file)
    by_cases hlt : k < 1
    · obtain ⟨D2, hRew, hG2, hst3, hliv2, -, -⟩ := hG.half.rew recs Hlong.out (by omega) (by rw [fileOf_length]; omega)
      rw [hRew] at hrew
      obtain ⟨W2, hW2⟩ : ∃ W2 : WS, W2 = { W with f := otherF W.f, gen := W.gen + 1, recs := recs, bytes := (fileOf (W.gen + 1) recs).length } := ⟨_, rfl⟩
      rw [← hW2] at hrew hG2
      have y2 : W2.bytes = recs.flatten.length + 9 * recs.length + 26 := by rw [hW2]; show (fileOf (W.gen + 1) recs).length = _; rw [fileOf_length]
      have y3 : W2.gen + (1 - (k + 1)) = 4611686018427387903 := by rw [hW2]; show W.gen + 1 + (1 - (k + 1)) = _; omega
      have HY := Lib.hid (And.intro hG2 (And.intro (show W2.recs = recs by rw [hW2]) (And.intro y2 (And.intro (show D2.steps ≤ 10 + 4 * (3 - (1 - (k + 1))) by omega) y3))))
      clear hG hrec hbytes hst hst2 hgen hRew hG2 hst3 hliv2 hW2 y2 y3 hfl hrl hr6 hD hp
      go_wp2_with fail
      refine hrew.mono ?_
      rintro e w3 ⟨rfl, ⟨V7, hD7⟩, hp7, ho7⟩
      have HGo : Hid (LastAt w p d b recs (1 - (k + 1)) w3) := Lib.hid ⟨⟨D2, W2, V7, hD7, hp7, HY.out.1, HY.out.2.1, HY.out.2.2.1, HY.out.2.2.2.1, HY.out.2.2.2.2⟩, hbel.trans (ho7.below hS hbel.size)⟩
      clear hD7 hp7 ho7 hrew hbel HY
      go_wp2_with fail
      go_roundw
      case rel => exact ⟨k + 1, by omega, by go_num, HGo.out⟩
      case measure => simp [intOf]; omega
    · obtain rfl : k = 1 := by omega
      have hfull := wRew_full (D := D) (W := W) (l := recs) (by rw [hG.over]; simp) (by rw [Hlong.out]; simp) (by omega)
      rw [hfull] at hrew
      obtain ⟨D3, hApp, -⟩ := hG.app [] (by decide) (by rw [← hG.size]; simp; omega)
      have hWn : (W.recs.length : Int) = (m : Int) := by rw [hrec, hrl]
      have HO := Lib.hid (And.intro hG.over (And.intro hApp (And.intro (show W.bytes ≤ 4503599627370496 by omega) (show W.recs.length ≤ 4503599627370496 by rw [hrec]; omega))))
      clear hG hrec hbytes hst hgen hfull hApp hfl hrl hr6 hD hp
      go_wp2_with fail
      refine hrew.mono ?_
      rintro e w3 ⟨rfl, ⟨V7, hD7⟩, hp7, ho7⟩
      change DiskAt _ w3 d b false V7 D at hD7
      change w3.heap[p]? = some (walCells d W) at hp7
      have hbel7 := hbel.trans (ho7.below hS hbel.size)
      have hcnt := wcount_calls p d b false V7 D W w3 hp7 hD7
      rw [HO.out.1, if_neg (by simp), hWn] at hcnt
      clear ho7 hrew hbel
      go_wp2_with fail
      refine hcnt.mono ?_
      rintro e w8 ⟨rfl, m8, rfl⟩
      have hb3 := below_drewN (Below.refl w3.heap.size w3) m8
      have hD8 := hD7.move hb3
      have hp8 := (hb3.block p (heap_lt hp7)).trans hp7
      have hbel8 := below_then hbel7 hb3
      clear hD7 hp7 hbel7 hb3 hcnt
      generalize w3.drewN m8 = w8 at *
      have happ := wapp_calls p d b false V7 D W none 0 0 [] w8 hp8 hD8 hpd (fun k h => h.2) (fun k hk => ⟨trivial, by have := heap_lt hp8; omega⟩) (by omega) (Rd.none_ _ _) (by decide) HO.out.2.2.1 HO.out.2.2.2
      rw [HO.out.2.1] at happ
      clear hD8 hp8
      go_wp2_with fail
      refine happ.mono ?_
      rintro e w9 ⟨rfl, -, -, ho9⟩
      have hbel9 := hbel8.trans (ho9.below hS hbel8.size)
      clear happ ho9 hbel8
      go_wp2_with fail
      go_ret
      exact ⟨rfl, hbel9⟩

theorem wallast_walk (w : World) (c : Nat) (hc : c < 256) (A : Option Addr) (n cap : Nat) (recs : List (List UInt8)) (hr : RdL w A n recs) (hn : n ≤ 140737488355328) (_hcap : n ≤ cap) (tail : Bool) :
    Calls Try.prog 6 #[.int .u8 (c : Int), .slice A n cap, .bool tail] w fun e w' => e = .returned (.bool true) ∧ Below w.heap.size w w' := by
  have h3 : c % 3 = 0 ∨ c % 3 = 1 ∨ c % 3 = 2 := by omega
  rcases h3 with h | h | h <;> cases tail
  · exact wallast_0f w c hc h A n cap recs hr hn
  · exact wallast_0t w c hc h A n cap recs hr hn
  · exact wallast_1f w c hc h A n cap recs hr hn
  · exact wallast_1t w c hc h A n cap recs hr hn
  · exact wallast_2f w c hc h A n cap recs hr hn
  · exact wallast_2t w c hc h A n cap recs hr hn
end Go.Proofs.Ythcajaadbdiggaa
