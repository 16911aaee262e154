/- The walk of the law WalPicks. -/
import Derived.Test.YthcajaadbdiggaaWalLast
import Derived.Deep.RegionHeld3
namespace Go.Proofs.Ythcajaadbdiggaa
set_option maxRecDepth 1000000
open Go.RowKit

theorem picks_open {D : DS} {f : Int} {gw og : Nat} {want ow : List (List UInt8)} {tail : List UInt8} (hoff : D.off = false) (harm : D.armed = -1) (hliv : D.lives = 0) (hst : D.steps = 2) (hf : f = 0 ∨ f = 1)
    (h1 : D.b f = fileOf gw want ++ tail) (h2 : D.b (otherF f) = fileOf og ow ++ tail) (g0 : 0 < gw) (g1 : gw < 2000) (o0 : 0 < og) (o1 : og < 2000) (hlow : og < gw ∨ (f = 0 ∧ og = gw)) (hlw : tooLong want = false) (hlo : tooLong ow = false)
    (ht : nextErr tail 0 ≠ 0) (hfl : want.flatten.length ≤ 2000) (hn : want.length ≤ 10) :
    ∃ D3 W3, wOpen D = (D3, some W3, 0) ∧ Good D3 W3 ∧ W3.recs = want ∧ W3.bytes ≤ 3000 ∧ D3.steps ≤ 5 ∧ D3.lives = 0 ∧ (wFirst D).recs = want := by
  have k1 := look_file (g := gw) (l := want) (more := []) (tail := tail) g0 (by omega) hlw rfl ht
  have k2 := look_file (g := og) (l := ow) (more := []) (tail := tail) o0 (by omega) hlo rfl ht
  simp only [List.map_nil, List.flatten_nil, List.append_nil] at k1 k2
  rw [← h1] at k1
  rw [← h2] at k2
  have hp := wPick_of hf k1 (fun y hy => by rw [k2] at hy; injection hy with hy; subst hy; exact hlow)
  obtain ⟨W0, hW0⟩ : ∃ W0 : WS, W0 = { f := f, gen := gw, recs := want, bytes := (D.b f).length, lives := 0, done := false } := ⟨_, rfl⟩
  have hw : wFirst D = W0 := by rw [hW0]; unfold wFirst; rw [hp, hliv]
  have hhalf : Half D W0 := by
    rw [hW0]
    exact ⟨hoff, harm, hliv, rfl, hf, by show gw < _; omega, ⟨(want.map recR).flatten ++ (enc [69] ++ tail), by show D.b f = _; rw [h1]; simp [fileOf, body]⟩⟩
  have hwr : (wFirst D).recs = want := by rw [hw, hW0]
  cases tail with
  | nil =>
    refine ⟨D, W0, ?_, ?_, by rw [hW0], by rw [hW0]; show (D.b f).length ≤ 3000; rw [h1, List.append_nil, fileOf_length]; omega, by omega, hliv, hwr⟩
    · rw [wOpen_clean hoff (by rw [hp]; rfl), hw]
    · rw [hW0]
      refine ⟨hoff, harm, hliv, rfl, hf, g0, by show gw < _; omega, ⟨want, [], by show D.b f = _; rw [h1]; simp, by simp⟩, hlw, rfl, ?_⟩
      intro k x hx
      have hx2 := look_pre (g := og) (rest := (ow.map recR).flatten ++ enc [69]) (ys := (D.b (otherF f)).take k) (by omega) (by
        have : enc (71 :: be 8 og) ++ ((ow.map recR).flatten ++ enc [69]) = D.b (otherF f) := by rw [h2]; simp [fileOf, body]
        rw [this]; exact List.take_prefix _ _) hx
      show x.1 < gw ∨ (f = 0 ∧ x.1 = gw)
      rw [hx2]; exact hlow
  | cons t ts =>
    obtain ⟨D', h3, h4, h5, h6, -, -⟩ := hhalf.rew want hlw (by rw [hW0]; show gw + 1 < _; omega) (by rw [fileOf_length]; omega)
    obtain ⟨W', hW'⟩ : ∃ W' : WS, W' = { W0 with f := otherF W0.f, gen := W0.gen + 1, recs := want, bytes := (fileOf (W0.gen + 1) want).length } := ⟨_, rfl⟩
    rw [← hW'] at h3 h4
    refine ⟨D', W', by rw [wOpen_rew (R := (D', W', 0)) hoff (by rw [hp]; exact decide_eq_true (show 0 < (t :: ts).length from Nat.succ_pos _)) (by rw [hwr, hw]; exact h3) rfl], h4, by rw [hW'], by rw [hW']; show (fileOf (W0.gen + 1) want).length ≤ 3000; rw [fileOf_length]; omega, by omega, by omega, hwr⟩

def picksD (fa fb : List UInt8) : DS := { (lastD fa).put 1 fb 0 with steps := 2 }
theorem picks_app {fa fb : List UInt8} (h : fb.length ≤ 4194304) : (lastD fa).appR 1 fb = (picksD fa fb, 0) :=
  app_good (D := lastD fa) (f := 1) (ys := fb) rfl rfl (.inr rfl) (by show 0 + fb.length ≤ _; omega)
theorem scan_none {xs : List UInt8} (h : (scanOf xs).1 = []) : nextErr xs 0 ≠ 0 := by
  obtain ⟨h1, h2⟩ := scan_reach xs
  rw [h] at h1
  generalize (scanOf xs).2 = a at *
  have key : ∀ ls, Reach xs ls a → ls = [] → a = 0 := by
    intro ls hr
    induction hr with
    | start => intro _; rfl
    | step _ _ _ => intro e; exact absurd e (by simp)
  rw [key _ h1 rfl] at h2
  exact h2

theorem step_append_g {P : Program} {w : World} {ops : Array Oper} {o : Oper} {a : Act} {K : Act → World → Prop} {Q : Exit → Act → World → Prop} {E : Prop} (hw : Region.wanted o (yielded ops a.tmps) = true) (s x : Operand) (t : TypeId)
    (ho : o.op = .call { callee := .builtin .append, args := #[s, x], argTypes := #[t, t] })
    (base : Nat) (e : TypeId) (i : TypeInfo) (z : Value) (size bytes : Nat) (ht : P.underlying t = some (.slice e)) (hi : P.info? e = some i) (hz : i.zero = some z)
    (hsize : i.size = size) (hby : i.bytes = bytes) (hzs : z.cells.size = size) (hsz : 0 < size)
    (v : Value) (n : Nat) (xs : List Value) (hs : a.eval s = v) (hown : w.ownsRow base e size v n xs)
    (A : Option Addr) (m c : Nat) (news : List Value) (hx : a.eval x = .slice A m c) (hr : Rd w A m news) (hs1 : size = 1) (h1 : ∀ u ∈ news, u.oneCell' = true)
    (h63 : n + m ≤ maxLen) (hbytes : (n + m) * bytes ≤ 140737488355328) (hbase : base ≤ w.heap.size)
    (h : ∀ v' w', w'.ownsRow base e size v' (n + m) (xs ++ news) → w.grownBy w' v.ownBlock → (v'.ownBlock = v.ownBlock ∨ v'.ownBlock = some w.heap.size) → K (a.put o.dst v') w') :
    if Region.wanted o (yielded ops a.tmps) = true then Oper.wp P o a w K Q else E := by
  rw [if_pos hw]
  exact wp_append_any w s x t ho base e i z size bytes ht hi hz hsize hby hzs hsz v n xs hs hown A m c news hx hr hs1 h1 h63 hbytes hbase h

set_option maxHeartbeats 16000000 in
theorem walpicks_le (w : World) (A : Option Addr) (na ca : Nat) (a : List (List UInt8)) (hra : RdL w A na a) (hna : na ≤ 140737488355328) (B : Option Addr) (nb cb : Nat) (b : List (List UInt8)) (hrb : RdL w B nb b) (hnb : nb ≤ 140737488355328)
    (g0 h0 : Nat) (x y : Nat) (hx1 : (g0 : Int) % 1000 = (x : Int)) (hx2 : (g0 : Int).tmod 1000 = (x : Int)) (hy1 : (h0 : Int) % 1000 = (y : Int)) (hy2 : (h0 : Int).tmod 1000 = (y : Int)) (hx : x < 1000) (hy : y < 1000)
    (T : Option Addr) (tn tc : Nat) (tail : List UInt8) (hrt : Rd w T tn (ub tail)) (htn : tn ≤ 140737488355328) (htc : tn ≤ tc) (M : Option Addr) (mn mc : Nat) (more : List UInt8) (hrm : Rd w M mn (ub more)) (hmn : mn ≤ 140737488355328) (hgh : ¬ x < y) :
    Calls Try.prog 5 #[.slice A na ca, .slice B nb cb, .int .u64 (g0 : Int), .int .u64 (h0 : Int), .slice T tn tc, .slice M mn mc] w fun e w' => e = .returned (.bool true) ∧ Below w.heap.size w w' := by
  go_enter Try.func5, Try.ntmps5
  go_wp2_with fail
  refine (begun_calls w).mono ?_
  rintro e w1 ⟨rfl, hbel1⟩
  by_cases c1 : 10 < na
  · go_wp2_with fail
    go_ret
    exact ⟨rfl, hbel1⟩
  by_cases c2 : 10 < nb
  · go_wp2_with fail
    go_ret
    exact ⟨rfl, hbel1⟩
  by_cases c3 : 100 < tn
  · go_wp2_with fail
    go_ret
    exact ⟨rfl, hbel1⟩
  by_cases c4 : 100 < mn
  · go_wp2_with fail
    go_ret
    exact ⟨rfl, hbel1⟩
  go_wp2_with fail
  refine (sum0_calls A na ca a 2000 w1 (hra.below hbel1) hna (by decide)).mono ?_
  rintro e w2 ⟨⟨r, rfl, hsum⟩, rfl⟩
  by_cases c5 : 2000 < r
  · go_wp2_with fail
    go_ret
    exact ⟨rfl, hbel1⟩
  have Hfa : Hid (a.flatten.length ≤ 2000) := Lib.hid (by rw [← hsum (by omega)]; omega)
  clear hsum
  go_wp2_with fail
  refine (sum0_calls B nb cb b 2000 w1 (hrb.below hbel1) hnb (by decide)).mono ?_
  rintro e w2 ⟨⟨r2, rfl, hsum⟩, rfl⟩
  by_cases c6 : 2000 < r2
  · go_wp2_with fail
    go_ret
    exact ⟨rfl, hbel1⟩
  have Hfb : Hid (b.flatten.length ≤ 2000) := Lib.hid (by rw [← hsum (by omega)]; omega)
  clear hsum
  have long_of : ∀ l : List (List UInt8), l.flatten.length ≤ 2000 → tooLong l = false := fun l h1 => List.any_eq_false.2 (fun q hq => by
    have h2 : q.length ≤ l.flatten.length := by
      obtain ⟨k, hk⟩ := List.getElem?_of_mem hq
      have := flat_len hk; have := flat_le hk; omega
    simp; omega)
  have Hla := Lib.hid (long_of a Hfa.out)
  have Hlb := Lib.hid (long_of b Hfb.out)
  clear long_of
  go_wp2_with fail
  refine (ref3scan_calls T tn tc tail w1 (hrt.below hbel1) htc (by omega)).mono ?_
  rintro e w2 ⟨⟨B2, n2, cc2, G2, cs2, rfl, hn2, -, -, -⟩, hb2⟩
  have hbel2 := below_then hbel1 hb2
  have Hn2 := Lib.hid hn2
  clear hbel1 hb2 hn2
  by_cases c7 : 0 < n2
  · go_wp2_with fail
    go_ret
    exact ⟨rfl, hbel2⟩
  have Ht : Hid (nextErr tail 0 ≠ 0) := Lib.hid (scan_none (List.eq_nil_of_length_eq_zero (by have := Hn2.out; omega)))
  clear Hn2
  go_wp2_with fail
  refine (new_calls Any w2).mono ?_
  rintro e w3 ⟨d, bb, V, rfl, hD, hd, hb, hb3⟩
  have hbel3 := below_then hbel2 hb3
  have hwd : w.heap.size ≤ d ∧ w.heap.size ≤ bb := ⟨Nat.le_trans hbel2.size hd, Nat.le_trans hbel2.size hb⟩
  have hra3 := hra.below hbel3
  have hrt3 := hrt.below hbel3
  have hwh1 : Calls Try.prog 27 #[.int .u64 (1 + (x : Int)), .slice A na ca, .slice T tn tc] w3 fun e w' => (∃ u k, e = .returned u ∧ k = (fileOf (1 + x) a ++ tail).length ∧ w'.ownsRow w3.heap.size 5 1 u k (ub (fileOf (1 + x) a ++ tail))) ∧ Below w3.heap.size w3 w' :=
    whole_calls (1 + x) (by omega) A na ca a T tn tc tail w3 hra3 hrt3 (by omega) (by have := Hfa.out; omega) (by omega)
  clear hbel2 hb3 hd hb hra3 hrt3
  go_wp2_with fail
  refine hwh1.mono ?_
  rintro e w4 ⟨⟨u, kx, rfl, hkx, hown⟩, hb4⟩
  obtain ⟨B4, c4', rfl, hc4', hrd4⟩ := own_rd hown
  have hD4 := hD.move hb4
  have hbel4 := below_then hbel3 hb4
  have Hk4 := Lib.hid hkx
  have Hlen4 : Hid ((fileOf (1 + x) a ++ tail).length ≤ 4194304) := Lib.hid (by
    have := Hfa.out; have := hra.len; have := hrt.len
    rw [List.length_append, fileOf_length]; omega)
  have Hkb4 : Hid (kx ≤ 4194304) := Lib.hid (by have := Hk4.out; have := Hlen4.out; omega)
  clear hown hb4 hD hbel3 hkx hwh1
  go_wp2_with fail
  refine (appR_calls 0 hD4 hrd4 (by have := Hkb4.out; omega) (fun _ _ => trivial) (by decide)).mono ?_
  rw [last_app Hlen4.out]
  rintro e w5 ⟨rfl, ⟨V5, hD5⟩, ho5⟩
  have hbel5 := hbel4.trans (ho5.below hwd.1 hwd.2 hbel4.size)
  have hrb5 := hrb.below hbel5
  have hrt5 := hrt.below hbel5
  have hwh2 : Calls Try.prog 27 #[.int .u64 (1 + (y : Int)), .slice B nb cb, .slice T tn tc] w5 fun e w' => (∃ u k, e = .returned u ∧ k = (fileOf (1 + y) b ++ tail).length ∧ w'.ownsRow w5.heap.size 5 1 u k (ub (fileOf (1 + y) b ++ tail))) ∧ Below w5.heap.size w5 w' :=
    whole_calls (1 + y) (by omega) B nb cb b T tn tc tail w5 hrb5 hrt5 (by omega) (by have := Hfb.out; omega) (by omega)
  clear hD4 hrd4 ho5 hbel4 hrb5 hrt5
  go_wp2_with fail
  refine hwh2.mono ?_
  rintro e w6 ⟨⟨u, kx2, rfl, hkx, hown⟩, hb6⟩
  obtain ⟨B6, c6', rfl, hc6', hrd6⟩ := own_rd hown
  have hD6 := hD5.move hb6
  have hbel6 := below_then hbel5 hb6
  have Hk6 := Lib.hid hkx
  have Hlen6 : Hid ((fileOf (1 + y) b ++ tail).length ≤ 4194304) := Lib.hid (by
    have := Hfb.out; have := hrb.len; have := hrt.len
    rw [List.length_append, fileOf_length]; omega)
  have Hkb6 : Hid (kx2 ≤ 4194304) := Lib.hid (by have := Hk6.out; have := Hlen6.out; omega)
  clear hown hb6 hD5 hbel5 hkx hwh2
  go_wp2_with fail
  refine (appR_calls 1 hD6 hrd6 (by have := Hkb6.out; omega) (fun _ _ => trivial) (by show 1 < _; decide)).mono ?_
  rw [picks_app Hlen6.out]
  rintro e w7 ⟨rfl, ⟨V7, hD7⟩, ho7⟩
  have hbel7 := hbel6.trans (ho7.below hwd.1 hwd.2 hbel6.size)
  clear hD6 hrd6 ho7 hbel6
  go_wp2_with fail
  obtain ⟨D8, W8, hopen, hG8, hrec8, hby8, hst8, hliv8, hfirst⟩ := picks_open (D := picksD (fileOf (1 + x) a ++ tail) (fileOf (1 + y) b ++ tail)) (f := 0) (gw := 1 + x) (og := 1 + y) (want := a) (ow := b) (tail := tail) rfl rfl rfl rfl (.inl rfl) rfl rfl (by omega) (by omega) (by omega) (by omega) (by rcases Nat.lt_or_ge (1 + y) (1 + x) with h | h; exact .inl h; exact .inr ⟨rfl, by omega⟩) Hla.out Hlb.out Ht.out Hfa.out (by have := hra.len; omega)
  refine (open_calls (X := Any) d bb false V7 _ w7 hD7 (fun _ _ => trivial) (by show 2 + 3 < _; decide)).mono ?_
  intro e w8 hpost
  obtain ⟨p, B8, m8, c8, rfl, ⟨V8, hD8⟩, hp8, hpw, hrl8, -, ho8⟩ := hpost.some_ (by rw [hopen])
  rw [hopen] at hD8
  change DiskAt (fun k => Any k ∧ k ≠ p) w8 d bb false V8 D8 at hD8
  rw [hfirst] at hrl8
  have hlt7 := hD7.lt
  have hpd : p ≠ d ∧ p ≠ bb := ⟨by omega, by omega⟩
  have hwp : w.heap.size ≤ p := Nat.le_trans hbel7.size hpw
  have hbel8 := hbel7.trans (ho8.below hwd.1 hwd.2 hbel7.size)
  have hS : ∀ k, P3 d bb p k → w.heap.size ≤ k := fun k hk => by rcases hk with rfl | rfl | rfl <;> omega
  have hm8 : na = m8 := by rw [← hrl8.len, hra.len]
  subst hm8
  have hml := hrm.len
  obtain ⟨D9, hApp, hG9, hst9, hliv9⟩ := hG8.app more (by omega) (by rw [← hG8.size]; omega)
  obtain ⟨W9, hW9⟩ : ∃ W9 : WS, W9 = { W8 with recs := W8.recs ++ [more], bytes := W8.bytes + (more.length + 9) } := ⟨_, rfl⟩
  rw [← hW9] at hApp hG9
  have hrec9 : W9.recs = a ++ [more] := by rw [hW9]; show W8.recs ++ [more] = _; rw [hrec8]
  obtain ⟨D10, hSync, hG10, hst10, hliv10, hlast⟩ := hG9.sync
  obtain ⟨hOpen2, hFirst2, hG11, hliv11, hst11⟩ := hG10.power hlast []
  have HY := Lib.hid (And.intro hApp (And.intro hSync (And.intro hOpen2 (And.intro (show (wFirst (D10.power [])).recs = a ++ [more] by rw [hFirst2]; exact hrec9) (And.intro (show D10.lives < 1099511627776 by omega) (And.intro (show (D10.power []).steps + 3 < 1099511627776 by omega) (And.intro (show W8.bytes ≤ 4503599627370496 by omega) (And.intro (show W8.recs.length ≤ 4503599627370496 by rw [hrec8, hra.len]; omega) (And.intro (show D8.steps < 1099511627776 by omega) (show D9.steps < 1099511627776 by omega))))))))))
  clear hpost hD7 hbel7 ho8 hlt7 hpw hopen hG8 hrec8 hby8 hst8 hliv8 hfirst hApp hG9 hst9 hliv9 hW9 hrec9 hSync hG10 hst10 hliv10 hlast hOpen2 hFirst2 hG11 hliv11 hst11 hml
  have hrw8 := hra.below hbel8
  go_wp2_with fail
  refine (texts_calls A _ ca a w8 hrw8 (by omega)).mono ?_
  rintro e w9 ⟨⟨v, rfl, hown⟩, hb9⟩
  obtain ⟨B9, c9, rfl, hc9, hrd9⟩ := own_rd hown
  have hrl9 := hrl8.below hb9
  have halike := alike_calls B8 B9 _ _ c8 c9 a a w9 hrl9 hrd9 (by omega) (by omega)
  rw [decide_eq_true rfl] at halike
  have hD9 := hD8.move hb9
  have hp9 := (hb9.block p (heap_lt hp8)).trans hp8
  have hbel9 := below_then hbel8 hb9
  clear hown hrl8 hrw8 hrd9 hrl9 hD8 hp8 hbel8 hb9
  go_wp2_with fail
  refine halike.mono ?_
  rintro e w10 ⟨rfl, m10, rfl⟩
  have hb10 := below_drewN (Below.refl w9.heap.size w9) m10
  have hD10 := hD9.move hb10
  have hp10 := (hb10.block p (heap_lt hp9)).trans hp9
  have hbel10 := below_then hbel9 hb10
  clear hD9 hp9 hbel9 hb10 halike
  generalize w9.drewN m10 = w10 at *
  have hrm10 := hrm.below hbel10
  have happ := wapp_calls p d bb false V8 D8 W8 M mn mc more w10 hp10 hD10 hpd (fun k h => h.2) (fun k hk => ⟨trivial, by have := heap_lt hp10; omega⟩) HY.out.2.2.2.2.2.2.2.2.1 hrm10 hmn HY.out.2.2.2.2.2.2.1 HY.out.2.2.2.2.2.2.2.1
  rw [HY.out.1] at happ
  clear hD10 hp10 hrm10
  go_wp2_with fail
  refine happ.mono ?_
  rintro e w11 ⟨rfl, ⟨V11, hD11⟩, hp11, ho11⟩
  change DiskAt _ w11 d bb false V11 D9 at hD11
  change w11.heap[p]? = some (walCells d W9) at hp11
  have hbel11 := hbel10.trans (ho11.below hS hbel10.size)
  have hsync := wsync_calls p d bb false V11 D9 W9 w11 hp11 hD11 hpd (fun k h => h.2) HY.out.2.2.2.2.2.2.2.2.2
  rw [HY.out.2.1] at hsync
  clear hD11 hp11 ho11 happ hbel10
  go_wp2_with fail
  refine hsync.mono ?_
  rintro e w12 ⟨rfl, ⟨V12, hD12⟩, hp12, ho12⟩
  change DiskAt _ w12 d bb false V12 D10 at hD12
  change w12.heap[p]? = some (walCells d W9) at hp12
  have hbel12 := hbel11.trans (ho12.below hS hbel11.size)
  clear hsync ho12 hbel11
  go_wp2_with fail
  refine (power_calls d bb false V12 D10 none 0 0 [] w12 hD12 (fun w' _ => Rd.none_ _ _) (by simp) (by decide) HY.out.2.2.2.2.1).mono ?_
  rintro e w13 ⟨rfl, ⟨V13, hD13⟩, ho13⟩
  have hp13 := (ho13.block p (heap_lt hp12) hpd.1 hpd.2).trans hp12
  have hbel13 := hbel12.trans (ho13.below hwd.1 hwd.2 hbel12.size)
  clear hD12 hp12 ho13 hbel12
  go_wp2_with fail
  refine (open_calls (X := fun k => Any k ∧ k ≠ p) d bb false V13 (D10.power []) w13 hD13 (fun k hk => ⟨trivial, by have := heap_lt hp13; omega⟩) HY.out.2.2.2.2.2.1).mono ?_
  intro e w14 hpost
  obtain ⟨p2, B14, m14, c14, rfl, -, -, -, hrl14, -, ho14⟩ := hpost.some_ (by rw [HY.out.2.2.1])
  rw [HY.out.2.2.2.1] at hrl14
  have hbel14 := hbel13.trans (ho14.below hwd.1 hwd.2 hbel13.size)
  have hwl := hra.len
  have hm14 : m14 = na + 1 := by rw [← hrl14.len, List.length_append, hwl]; rfl
  subst hm14
  have hrwU := hra.below hbel14
  have hrmU := hrm.below hbel14
  clear hpost hD13 hp13 ho14 hbel13 HY
  go_wp2_with fail
  have hbU := (Below.refl w14.heap.size w14).drew
  have hrwD : RdL w14.drew A na a := hrwU.below hbU
  have hrmD : Rd w14.drew M mn (ub more) := hrmU.below hbU
  have hs1 : (convert 35 9 (.slice M mn mc)).run Try.prog w14.drew = .ok (.string (txt more)) w14.drew := run_str (P := Try.prog) (dst := 9) Try.underlying35 Try.underlying5 Try.underlying9 hrmD mc
  have hrwE : RdL (w14.drew.alloc (.cells #[.string (txt more)] 9)) A na a := hrwD.below ((Below.refl w14.drew.heap.size w14.drew).alloc (Nat.le_refl _) _)
  have hrdE : Rd (w14.drew.alloc (.cells #[.string (txt more)] 9)) (some ⟨w14.heap.size, 0, none⟩) 1 [.string (txt more)] := rd_one w14.drew _ 9
  have hbE : Below w14.heap.size w14 (w14.drew.alloc (.cells #[.string (txt more)] 9)) := hbU.alloc hbU.size _
  have hsE : w14.heap.size ≤ (w14.drew.alloc (.cells #[.string (txt more)] 9)).heap.size := hbE.size
  obtain ⟨i0, hi0, hzi0, hzi1, hzi2⟩ := info_parts info_string
  have Hb14 := Lib.hid hbel14
  have HU := Lib.hid (And.intro hrwU (And.intro hrmU (And.intro hrl14 hbU)))
  have HD := Lib.hid (And.intro hrwD (And.intro hrmD (And.intro hrwE (And.intro hrdE (And.intro hbE hsE)))))
  clear hrwU hrmU hbU hrwD hrmD hrwE hrdE hbE hsE hrl14 hbel14 hwl
  have hRM := HD.out.2.1
  clear hs1
  go_region_held3 (fun U => (convert 35 9 (.slice M mn mc)).run Try.prog U = .ok (.string (txt more)) U)
    (exact run_str (P := Try.prog) (dst := 9) Try.underlying35 Try.underlying5 Try.underlying9 (by first | exact hRM | exact hRM.below ((Below.refl _ _).alloc (Nat.le_refl _) _)) mc)
    (first
      | (go_at_call 29
         refine (texts_calls A _ ca a w14.drew HD.out.1 (by omega)).mono ?_
         rintro e w15 ⟨⟨v, rfl, hown⟩, hb15⟩
         have HoA := Lib.hid (hown.alloc (.cells #[.string (txt more)] 9))
         have HrA := Lib.hid (rd_one w15 (.string (txt more)) 9)
         have hbx := below_then HU.out.2.2.2 hb15
         have HbA := Lib.hid (hbx.alloc hbx.size (.cells #[.string (txt more)] 9))
         clear hRM
         have hRM := HU.out.2.1.below hbx
         clear hown hb15 hbx)
      | (go_at_call 29
         refine (texts_calls A _ ca a (w14.drew.alloc (.cells #[.string (txt more)] 9)) HD.out.2.2.1 (by omega)).mono ?_
         rintro e w15 ⟨⟨v, rfl, hown⟩, hb15⟩
         have HoA := Lib.hid (own_lower hown (b2 := w14.heap.size) HD.out.2.2.2.2.2)
         have HrA := Lib.hid (HD.out.2.2.2.1.below hb15)
         have HbA := Lib.hid (below_then HD.out.2.2.2.2.1 hb15)
         clear hRM
         have hRM := HU.out.2.1.below HbA.out
         clear hown hb15)
      | (go_at_call 28
         refine (alike_calls B14 B16 _ _ c14 c16 (a ++ [more]) (a ++ [more]) w16 (HU.out.2.2.1.below H16.out.2) (by have := H16.out.1; simpa [svs] using this) (by omega) (by omega)).mono ?_
         rw [decide_eq_true rfl]
         rintro e w17 ⟨rfl, m17, rfl⟩
         have H17 := Lib.hid (below_then H16.out.2 (below_drewN (Below.refl w16.heap.size w16) m17))
         clear hRM
         have hRM := HU.out.2.1.below H17.out)
      | (refine step_append_g (by simp [Region.wanted, yielded]) (.tmp 127) (.tmp 130) 59 rfl w14.heap.size 9 i0 (.string ⟨#[]⟩) 1 16 Try.underlying59 hi0 hzi0 hzi1 hzi2 rfl (by decide) v _ _ (by simp [Act.eval, Act.put]) HoA.out _ 1 1 [.string (txt more)] (by simp [Act.eval, Act.put]) HrA.out rfl (one_one rfl) (by unfold maxLen; omega) (by omega) HbA.out.size ?_
         intro v6 w16 hown6 hg6 _
         obtain ⟨B16, c16, rfl, _, hrd16⟩ := own_rd hown6
         have hb16 := HbA.out.grown hg6 HbA.out.size (fun k hk => own_base HoA.out k hk)
         clear hRM
         have hRM := HU.out.2.1.below hb16
         have H16 := Lib.hid (And.intro hrd16 hb16)
         clear hown6 hg6 hrd16 hb16))
  all_goals
    go_wp2_with fail
    go_ret
    exact ⟨rfl, below_then Hb14.out H17.out⟩

set_option maxHeartbeats 16000000 in
theorem walpicks_gt (w : World) (A : Option Addr) (na ca : Nat) (a : List (List UInt8)) (hra : RdL w A na a) (hna : na ≤ 140737488355328) (B : Option Addr) (nb cb : Nat) (b : List (List UInt8)) (hrb : RdL w B nb b) (hnb : nb ≤ 140737488355328)
    (g0 h0 : Nat) (x y : Nat) (hx1 : (g0 : Int) % 1000 = (x : Int)) (hx2 : (g0 : Int).tmod 1000 = (x : Int)) (hy1 : (h0 : Int) % 1000 = (y : Int)) (hy2 : (h0 : Int).tmod 1000 = (y : Int)) (hx : x < 1000) (hy : y < 1000)
    (T : Option Addr) (tn tc : Nat) (tail : List UInt8) (hrt : Rd w T tn (ub tail)) (htn : tn ≤ 140737488355328) (htc : tn ≤ tc) (M : Option Addr) (mn mc : Nat) (more : List UInt8) (hrm : Rd w M mn (ub more)) (hmn : mn ≤ 140737488355328) (hgh : x < y) :
    Calls Try.prog 5 #[.slice A na ca, .slice B nb cb, .int .u64 (g0 : Int), .int .u64 (h0 : Int), .slice T tn tc, .slice M mn mc] w fun e w' => e = .returned (.bool true) ∧ Below w.heap.size w w' := by
  go_enter Try.func5, Try.ntmps5
  go_wp2_with fail
  refine (begun_calls w).mono ?_
  rintro e w1 ⟨rfl, hbel1⟩
  by_cases c1 : 10 < na
  · go_wp2_with fail
    go_ret
    exact ⟨rfl, hbel1⟩
  by_cases c2 : 10 < nb
  · go_wp2_with fail
    go_ret
    exact ⟨rfl, hbel1⟩
  by_cases c3 : 100 < tn
  · go_wp2_with fail
    go_ret
    exact ⟨rfl, hbel1⟩
  by_cases c4 : 100 < mn
  · go_wp2_with fail
    go_ret
    exact ⟨rfl, hbel1⟩
  go_wp2_with fail
  refine (sum0_calls A na ca a 2000 w1 (hra.below hbel1) hna (by decide)).mono ?_
  rintro e w2 ⟨⟨r, rfl, hsum⟩, rfl⟩
  by_cases c5 : 2000 < r
  · go_wp2_with fail
    go_ret
    exact ⟨rfl, hbel1⟩
  have Hfa : Hid (a.flatten.length ≤ 2000) := Lib.hid (by rw [← hsum (by omega)]; omega)
  clear hsum
  go_wp2_with fail
  refine (sum0_calls B nb cb b 2000 w1 (hrb.below hbel1) hnb (by decide)).mono ?_
  rintro e w2 ⟨⟨r2, rfl, hsum⟩, rfl⟩
  by_cases c6 : 2000 < r2
  · go_wp2_with fail
    go_ret
    exact ⟨rfl, hbel1⟩
  have Hfb : Hid (b.flatten.length ≤ 2000) := Lib.hid (by rw [← hsum (by omega)]; omega)
  clear hsum
  have long_of : ∀ l : List (List UInt8), l.flatten.length ≤ 2000 → tooLong l = false := fun l h1 => List.any_eq_false.2 (fun q hq => by
    have h2 : q.length ≤ l.flatten.length := by
      obtain ⟨k, hk⟩ := List.getElem?_of_mem hq
      have := flat_len hk; have := flat_le hk; omega
    simp; omega)
  have Hla := Lib.hid (long_of a Hfa.out)
  have Hlb := Lib.hid (long_of b Hfb.out)
  clear long_of
  go_wp2_with fail
  refine (ref3scan_calls T tn tc tail w1 (hrt.below hbel1) htc (by omega)).mono ?_
  rintro e w2 ⟨⟨B2, n2, cc2, G2, cs2, rfl, hn2, -, -, -⟩, hb2⟩
  have hbel2 := below_then hbel1 hb2
  have Hn2 := Lib.hid hn2
  clear hbel1 hb2 hn2
  by_cases c7 : 0 < n2
  · go_wp2_with fail
    go_ret
    exact ⟨rfl, hbel2⟩
  have Ht : Hid (nextErr tail 0 ≠ 0) := Lib.hid (scan_none (List.eq_nil_of_length_eq_zero (by have := Hn2.out; omega)))
  clear Hn2
  go_wp2_with fail
  refine (new_calls Any w2).mono ?_
  rintro e w3 ⟨d, bb, V, rfl, hD, hd, hb, hb3⟩
  have hbel3 := below_then hbel2 hb3
  have hwd : w.heap.size ≤ d ∧ w.heap.size ≤ bb := ⟨Nat.le_trans hbel2.size hd, Nat.le_trans hbel2.size hb⟩
  have hra3 := hra.below hbel3
  have hrt3 := hrt.below hbel3
  have hwh1 : Calls Try.prog 27 #[.int .u64 (1 + (x : Int)), .slice A na ca, .slice T tn tc] w3 fun e w' => (∃ u k, e = .returned u ∧ k = (fileOf (1 + x) a ++ tail).length ∧ w'.ownsRow w3.heap.size 5 1 u k (ub (fileOf (1 + x) a ++ tail))) ∧ Below w3.heap.size w3 w' :=
    whole_calls (1 + x) (by omega) A na ca a T tn tc tail w3 hra3 hrt3 (by omega) (by have := Hfa.out; omega) (by omega)
  clear hbel2 hb3 hd hb hra3 hrt3
  go_wp2_with fail
  refine hwh1.mono ?_
  rintro e w4 ⟨⟨u, kx, rfl, hkx, hown⟩, hb4⟩
  obtain ⟨B4, c4', rfl, hc4', hrd4⟩ := own_rd hown
  have hD4 := hD.move hb4
  have hbel4 := below_then hbel3 hb4
  have Hk4 := Lib.hid hkx
  have Hlen4 : Hid ((fileOf (1 + x) a ++ tail).length ≤ 4194304) := Lib.hid (by
    have := Hfa.out; have := hra.len; have := hrt.len
    rw [List.length_append, fileOf_length]; omega)
  have Hkb4 : Hid (kx ≤ 4194304) := Lib.hid (by have := Hk4.out; have := Hlen4.out; omega)
  clear hown hb4 hD hbel3 hkx hwh1
  go_wp2_with fail
  refine (appR_calls 0 hD4 hrd4 (by have := Hkb4.out; omega) (fun _ _ => trivial) (by decide)).mono ?_
  rw [last_app Hlen4.out]
  rintro e w5 ⟨rfl, ⟨V5, hD5⟩, ho5⟩
  have hbel5 := hbel4.trans (ho5.below hwd.1 hwd.2 hbel4.size)
  have hrb5 := hrb.below hbel5
  have hrt5 := hrt.below hbel5
  have hwh2 : Calls Try.prog 27 #[.int .u64 (1 + (y : Int)), .slice B nb cb, .slice T tn tc] w5 fun e w' => (∃ u k, e = .returned u ∧ k = (fileOf (1 + y) b ++ tail).length ∧ w'.ownsRow w5.heap.size 5 1 u k (ub (fileOf (1 + y) b ++ tail))) ∧ Below w5.heap.size w5 w' :=
    whole_calls (1 + y) (by omega) B nb cb b T tn tc tail w5 hrb5 hrt5 (by omega) (by have := Hfb.out; omega) (by omega)
  clear hD4 hrd4 ho5 hbel4 hrb5 hrt5
  go_wp2_with fail
  refine hwh2.mono ?_
  rintro e w6 ⟨⟨u, kx2, rfl, hkx, hown⟩, hb6⟩
  obtain ⟨B6, c6', rfl, hc6', hrd6⟩ := own_rd hown
  have hD6 := hD5.move hb6
  have hbel6 := below_then hbel5 hb6
  have Hk6 := Lib.hid hkx
  have Hlen6 : Hid ((fileOf (1 + y) b ++ tail).length ≤ 4194304) := Lib.hid (by
    have := Hfb.out; have := hrb.len; have := hrt.len
    rw [List.length_append, fileOf_length]; omega)
  have Hkb6 : Hid (kx2 ≤ 4194304) := Lib.hid (by have := Hk6.out; have := Hlen6.out; omega)
  clear hown hb6 hD5 hbel5 hkx hwh2
  go_wp2_with fail
  refine (appR_calls 1 hD6 hrd6 (by have := Hkb6.out; omega) (fun _ _ => trivial) (by show 1 < _; decide)).mono ?_
  rw [picks_app Hlen6.out]
  rintro e w7 ⟨rfl, ⟨V7, hD7⟩, ho7⟩
  have hbel7 := hbel6.trans (ho7.below hwd.1 hwd.2 hbel6.size)
  clear hD6 hrd6 ho7 hbel6
  go_wp2_with fail
  obtain ⟨D8, W8, hopen, hG8, hrec8, hby8, hst8, hliv8, hfirst⟩ := picks_open (D := picksD (fileOf (1 + x) a ++ tail) (fileOf (1 + y) b ++ tail)) (f := 1) (gw := 1 + y) (og := 1 + x) (want := b) (ow := a) (tail := tail) rfl rfl rfl rfl (.inr rfl) rfl rfl (by omega) (by omega) (by omega) (by omega) (.inl (by omega)) Hlb.out Hla.out Ht.out Hfb.out (by have := hrb.len; omega)
  refine (open_calls (X := Any) d bb false V7 _ w7 hD7 (fun _ _ => trivial) (by show 2 + 3 < _; decide)).mono ?_
  intro e w8 hpost
  obtain ⟨p, B8, m8, c8, rfl, ⟨V8, hD8⟩, hp8, hpw, hrl8, -, ho8⟩ := hpost.some_ (by rw [hopen])
  rw [hopen] at hD8
  change DiskAt (fun k => Any k ∧ k ≠ p) w8 d bb false V8 D8 at hD8
  rw [hfirst] at hrl8
  have hlt7 := hD7.lt
  have hpd : p ≠ d ∧ p ≠ bb := ⟨by omega, by omega⟩
  have hwp : w.heap.size ≤ p := Nat.le_trans hbel7.size hpw
  have hbel8 := hbel7.trans (ho8.below hwd.1 hwd.2 hbel7.size)
  have hS : ∀ k, P3 d bb p k → w.heap.size ≤ k := fun k hk => by rcases hk with rfl | rfl | rfl <;> omega
  have hm8 : nb = m8 := by rw [← hrl8.len, hrb.len]
  subst hm8
  have hml := hrm.len
  obtain ⟨D9, hApp, hG9, hst9, hliv9⟩ := hG8.app more (by omega) (by rw [← hG8.size]; omega)
  obtain ⟨W9, hW9⟩ : ∃ W9 : WS, W9 = { W8 with recs := W8.recs ++ [more], bytes := W8.bytes + (more.length + 9) } := ⟨_, rfl⟩
  rw [← hW9] at hApp hG9
  have hrec9 : W9.recs = b ++ [more] := by rw [hW9]; show W8.recs ++ [more] = _; rw [hrec8]
  obtain ⟨D10, hSync, hG10, hst10, hliv10, hlast⟩ := hG9.sync
  obtain ⟨hOpen2, hFirst2, hG11, hliv11, hst11⟩ := hG10.power hlast []
  have HY := Lib.hid (And.intro hApp (And.intro hSync (And.intro hOpen2 (And.intro (show (wFirst (D10.power [])).recs = b ++ [more] by rw [hFirst2]; exact hrec9) (And.intro (show D10.lives < 1099511627776 by omega) (And.intro (show (D10.power []).steps + 3 < 1099511627776 by omega) (And.intro (show W8.bytes ≤ 4503599627370496 by omega) (And.intro (show W8.recs.length ≤ 4503599627370496 by rw [hrec8, hrb.len]; omega) (And.intro (show D8.steps < 1099511627776 by omega) (show D9.steps < 1099511627776 by omega))))))))))
  clear hpost hD7 hbel7 ho8 hlt7 hpw hopen hG8 hrec8 hby8 hst8 hliv8 hfirst hApp hG9 hst9 hliv9 hW9 hrec9 hSync hG10 hst10 hliv10 hlast hOpen2 hFirst2 hG11 hliv11 hst11 hml
  have hrw8 := hrb.below hbel8
  go_wp2_with fail
  refine (texts_calls B _ cb b w8 hrw8 (by omega)).mono ?_
  rintro e w9 ⟨⟨v, rfl, hown⟩, hb9⟩
  obtain ⟨B9, c9, rfl, hc9, hrd9⟩ := own_rd hown
  have hrl9 := hrl8.below hb9
  have halike := alike_calls B8 B9 _ _ c8 c9 b b w9 hrl9 hrd9 (by omega) (by omega)
  rw [decide_eq_true rfl] at halike
  have hD9 := hD8.move hb9
  have hp9 := (hb9.block p (heap_lt hp8)).trans hp8
  have hbel9 := below_then hbel8 hb9
  clear hown hrl8 hrw8 hrd9 hrl9 hD8 hp8 hbel8 hb9
  go_wp2_with fail
  refine halike.mono ?_
  rintro e w10 ⟨rfl, m10, rfl⟩
  have hb10 := below_drewN (Below.refl w9.heap.size w9) m10
  have hD10 := hD9.move hb10
  have hp10 := (hb10.block p (heap_lt hp9)).trans hp9
  have hbel10 := below_then hbel9 hb10
  clear hD9 hp9 hbel9 hb10 halike
  generalize w9.drewN m10 = w10 at *
  have hrm10 := hrm.below hbel10
  have happ := wapp_calls p d bb false V8 D8 W8 M mn mc more w10 hp10 hD10 hpd (fun k h => h.2) (fun k hk => ⟨trivial, by have := heap_lt hp10; omega⟩) HY.out.2.2.2.2.2.2.2.2.1 hrm10 hmn HY.out.2.2.2.2.2.2.1 HY.out.2.2.2.2.2.2.2.1
  rw [HY.out.1] at happ
  clear hD10 hp10 hrm10
  go_wp2_with fail
  refine happ.mono ?_
  rintro e w11 ⟨rfl, ⟨V11, hD11⟩, hp11, ho11⟩
  change DiskAt _ w11 d bb false V11 D9 at hD11
  change w11.heap[p]? = some (walCells d W9) at hp11
  have hbel11 := hbel10.trans (ho11.below hS hbel10.size)
  have hsync := wsync_calls p d bb false V11 D9 W9 w11 hp11 hD11 hpd (fun k h => h.2) HY.out.2.2.2.2.2.2.2.2.2
  rw [HY.out.2.1] at hsync
  clear hD11 hp11 ho11 happ hbel10
  go_wp2_with fail
  refine hsync.mono ?_
  rintro e w12 ⟨rfl, ⟨V12, hD12⟩, hp12, ho12⟩
  change DiskAt _ w12 d bb false V12 D10 at hD12
  change w12.heap[p]? = some (walCells d W9) at hp12
  have hbel12 := hbel11.trans (ho12.below hS hbel11.size)
  clear hsync ho12 hbel11
  go_wp2_with fail
  refine (power_calls d bb false V12 D10 none 0 0 [] w12 hD12 (fun w' _ => Rd.none_ _ _) (by simp) (by decide) HY.out.2.2.2.2.1).mono ?_
  rintro e w13 ⟨rfl, ⟨V13, hD13⟩, ho13⟩
  have hp13 := (ho13.block p (heap_lt hp12) hpd.1 hpd.2).trans hp12
  have hbel13 := hbel12.trans (ho13.below hwd.1 hwd.2 hbel12.size)
  clear hD12 hp12 ho13 hbel12
  go_wp2_with fail
  refine (open_calls (X := fun k => Any k ∧ k ≠ p) d bb false V13 (D10.power []) w13 hD13 (fun k hk => ⟨trivial, by have := heap_lt hp13; omega⟩) HY.out.2.2.2.2.2.1).mono ?_
  intro e w14 hpost
  obtain ⟨p2, B14, m14, c14, rfl, -, -, -, hrl14, -, ho14⟩ := hpost.some_ (by rw [HY.out.2.2.1])
  rw [HY.out.2.2.2.1] at hrl14
  have hbel14 := hbel13.trans (ho14.below hwd.1 hwd.2 hbel13.size)
  have hwl := hrb.len
  have hm14 : m14 = nb + 1 := by rw [← hrl14.len, List.length_append, hwl]; rfl
  subst hm14
  have hrwU := hrb.below hbel14
  have hrmU := hrm.below hbel14
  clear hpost hD13 hp13 ho14 hbel13 HY
  go_wp2_with fail
  have hbU := (Below.refl w14.heap.size w14).drew
  have hrwD : RdL w14.drew B nb b := hrwU.below hbU
  have hrmD : Rd w14.drew M mn (ub more) := hrmU.below hbU
  have hs1 : (convert 35 9 (.slice M mn mc)).run Try.prog w14.drew = .ok (.string (txt more)) w14.drew := run_str (P := Try.prog) (dst := 9) Try.underlying35 Try.underlying5 Try.underlying9 hrmD mc
  have hrwE : RdL (w14.drew.alloc (.cells #[.string (txt more)] 9)) B nb b := hrwD.below ((Below.refl w14.drew.heap.size w14.drew).alloc (Nat.le_refl _) _)
  have hrdE : Rd (w14.drew.alloc (.cells #[.string (txt more)] 9)) (some ⟨w14.heap.size, 0, none⟩) 1 [.string (txt more)] := rd_one w14.drew _ 9
  have hbE : Below w14.heap.size w14 (w14.drew.alloc (.cells #[.string (txt more)] 9)) := hbU.alloc hbU.size _
  have hsE : w14.heap.size ≤ (w14.drew.alloc (.cells #[.string (txt more)] 9)).heap.size := hbE.size
  obtain ⟨i0, hi0, hzi0, hzi1, hzi2⟩ := info_parts info_string
  have Hb14 := Lib.hid hbel14
  have HU := Lib.hid (And.intro hrwU (And.intro hrmU (And.intro hrl14 hbU)))
  have HD := Lib.hid (And.intro hrwD (And.intro hrmD (And.intro hrwE (And.intro hrdE (And.intro hbE hsE)))))
  clear hrwU hrmU hbU hrwD hrmD hrwE hrdE hbE hsE hrl14 hbel14 hwl
  have hRM := HD.out.2.1
  clear hs1
  go_region_held3 (fun U => (convert 35 9 (.slice M mn mc)).run Try.prog U = .ok (.string (txt more)) U)
    (exact run_str (P := Try.prog) (dst := 9) Try.underlying35 Try.underlying5 Try.underlying9 (by first | exact hRM | exact hRM.below ((Below.refl _ _).alloc (Nat.le_refl _) _)) mc)
    (first
      | (go_at_call 29
         refine (texts_calls B _ cb b w14.drew HD.out.1 (by omega)).mono ?_
         rintro e w15 ⟨⟨v, rfl, hown⟩, hb15⟩
         have HoA := Lib.hid (hown.alloc (.cells #[.string (txt more)] 9))
         have HrA := Lib.hid (rd_one w15 (.string (txt more)) 9)
         have hbx := below_then HU.out.2.2.2 hb15
         have HbA := Lib.hid (hbx.alloc hbx.size (.cells #[.string (txt more)] 9))
         clear hRM
         have hRM := HU.out.2.1.below hbx
         clear hown hb15 hbx)
      | (go_at_call 29
         refine (texts_calls B _ cb b (w14.drew.alloc (.cells #[.string (txt more)] 9)) HD.out.2.2.1 (by omega)).mono ?_
         rintro e w15 ⟨⟨v, rfl, hown⟩, hb15⟩
         have HoA := Lib.hid (own_lower hown (b2 := w14.heap.size) HD.out.2.2.2.2.2)
         have HrA := Lib.hid (HD.out.2.2.2.1.below hb15)
         have HbA := Lib.hid (below_then HD.out.2.2.2.2.1 hb15)
         clear hRM
         have hRM := HU.out.2.1.below HbA.out
         clear hown hb15)
      | (go_at_call 28
         refine (alike_calls B14 B16 _ _ c14 c16 (b ++ [more]) (b ++ [more]) w16 (HU.out.2.2.1.below H16.out.2) (by have := H16.out.1; simpa [svs] using this) (by omega) (by omega)).mono ?_
         rw [decide_eq_true rfl]
         rintro e w17 ⟨rfl, m17, rfl⟩
         have H17 := Lib.hid (below_then H16.out.2 (below_drewN (Below.refl w16.heap.size w16) m17))
         clear hRM
         have hRM := HU.out.2.1.below H17.out)
      | (refine step_append_g (by simp [Region.wanted, yielded]) (.tmp 127) (.tmp 130) 59 rfl w14.heap.size 9 i0 (.string ⟨#[]⟩) 1 16 Try.underlying59 hi0 hzi0 hzi1 hzi2 rfl (by decide) v _ _ (by simp [Act.eval, Act.put]) HoA.out _ 1 1 [.string (txt more)] (by simp [Act.eval, Act.put]) HrA.out rfl (one_one rfl) (by unfold maxLen; omega) (by omega) HbA.out.size ?_
         intro v6 w16 hown6 hg6 _
         obtain ⟨B16, c16, rfl, _, hrd16⟩ := own_rd hown6
         have hb16 := HbA.out.grown hg6 HbA.out.size (fun k hk => own_base HoA.out k hk)
         clear hRM
         have hRM := HU.out.2.1.below hb16
         have H16 := Lib.hid (And.intro hrd16 hb16)
         clear hown6 hg6 hrd16 hb16))
  all_goals
    go_wp2_with fail
    go_ret
    exact ⟨rfl, below_then Hb14.out H17.out⟩

theorem walpicks_walk (w : World) (A : Option Addr) (na ca : Nat) (a : List (List UInt8)) (hra : RdL w A na a) (hna : na ≤ 140737488355328) (_hca : na ≤ ca) (B : Option Addr) (nb cb : Nat) (b : List (List UInt8)) (hrb : RdL w B nb b) (hnb : nb ≤ 140737488355328) (_hcb : nb ≤ cb)
    (g0 : Nat) (_hg0 : g0 < 18446744073709551616) (h0 : Nat) (_hh0 : h0 < 18446744073709551616)
    (T : Option Addr) (tn tc : Nat) (tail : List UInt8) (hrt : Rd w T tn (ub tail)) (htn : tn ≤ 140737488355328) (htc : tn ≤ tc) (M : Option Addr) (mn mc : Nat) (more : List UInt8) (hrm : Rd w M mn (ub more)) (hmn : mn ≤ 140737488355328) (_hmc : mn ≤ mc) :
    Calls Try.prog 5 #[.slice A na ca, .slice B nb cb, .int .u64 (g0 : Int), .int .u64 (h0 : Int), .slice T tn tc, .slice M mn mc] w fun e w' => e = .returned (.bool true) ∧ Below w.heap.size w w' := by
  have hm : ∀ q : Nat, (q : Int) % 1000 = ((q % 1000 : Nat) : Int) ∧ (q : Int).tmod 1000 = ((q % 1000 : Nat) : Int) := fun q => ⟨by omega, by rw [Int.tmod_eq_emod_of_nonneg (by omega)]; omega⟩
  by_cases hgh : g0 % 1000 < h0 % 1000
  · exact walpicks_gt w A na ca a hra hna B nb cb b hrb hnb g0 h0 _ _ (hm g0).1 (hm g0).2 (hm h0).1 (hm h0).2 (Nat.mod_lt _ (by decide)) (Nat.mod_lt _ (by decide)) T tn tc tail hrt htn htc M mn mc more hrm hmn hgh
  · exact walpicks_le w A na ca a hra hna B nb cb b hrb hnb g0 h0 _ _ (hm g0).1 (hm g0).2 (hm h0).1 (hm h0).2 (Nat.mod_lt _ (by decide)) (Nat.mod_lt _ (by decide)) T tn tc tail hrt htn htc M mn mc more hrm hmn hgh
end Go.Proofs.Ythcajaadbdiggaa
