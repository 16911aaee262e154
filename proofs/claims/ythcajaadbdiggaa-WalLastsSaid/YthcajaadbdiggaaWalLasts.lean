/- The walk of the law WalLasts. -/
import Derived.Test.YthcajaadbdiggaaWalEnd
import Derived.Test.YthcajaadbdiggaaWalHelp
import Derived.Test.YthcajaadbdiggaaOpsArg5
import Derived.Test.YthcajaadbdiggaaWalWhole
import Derived.StillTailTactics
namespace Go.Proofs.Ythcajaadbdiggaa
set_option maxRecDepth 1000000
open Go.RowKit

theorem own_zero {w : World} {base n : Nat} {e : TypeId} {size : Nat} {v : Value} {xs : List Value} (h : w.ownsRow base e size v (0 + n) ([] ++ xs)) : w.ownsRow base e size v n xs := by
  rw [Nat.zero_add, List.nil_append] at h; exact h
/-- a slice of texts in memory, in no block of a set -/
def StrAt (w : World) (S : Nat → Prop) (v : Value) (ls : List (List UInt8)) : Prop :=
  ∃ A c, v = .slice A ls.length c ∧ ls.length ≤ c ∧ Rd w A ls.length (svs ls) ∧ ∀ ad, A = some ad → ¬ S ad.block ∧ ad.block < w.heap.size
theorem StrAt.nil_ (w : World) (S : Nat → Prop) : StrAt w S (.slice none 0 0) [] := ⟨none, 0, rfl, Nat.le_refl _, Rd.none_ _ _, fun _ h => by cases h⟩
theorem StrAt.only {w w' : World} {S : Nat → Prop} {v : Value} {ls : List (List UInt8)} (h : StrAt w S v ls) (ho : OnlyS S w w') : StrAt w' S v ls := by
  obtain ⟨A, c, h1, h2, h3, h4⟩ := h
  exact ⟨A, c, h1, h2, h3.at_block (fun ad e => ho.block _ (h4 ad e).2 (h4 ad e).1), fun ad e => ⟨(h4 ad e).1, Nat.lt_of_lt_of_le (h4 ad e).2 ho.size⟩⟩
theorem StrAt.below {w w' : World} {S : Nat → Prop} {v : Value} {ls : List (List UInt8)} (h : StrAt w S v ls) (hb : Below w.heap.size w w') : StrAt w' S v ls := h.only (OnlyS.of_below hb)
theorem StrAt.own {w : World} {base n : Nat} {t : TypeId} {S : Nat → Prop} {v : Value} {ls : List (List UInt8)} (h : w.ownsRow base t 1 v n (svs ls)) (hS : ∀ k, S k → k < base) : StrAt w S v ls := by
  have hl := h.1
  rw [svs, List.length_map, Nat.mul_one] at hl
  subst hl
  obtain ⟨A, c, e, hc, hr⟩ := own_rd h
  refine ⟨A, c, e, hc, hr, fun ad ea => ?_⟩
  subst ea
  rcases h.2 with ⟨e2, -⟩ | ⟨g, cap, cur, e2, hg, hh, -⟩
  · rw [e] at e2; cases e2
  · rw [e] at e2; injection e2 with e2; injection e2 with e2; subst e2
    exact ⟨fun hs => by have := hS _ hs; simp only at this; omega, heap_lt hh⟩
theorem StrAt.cut {w : World} {S : Nat → Prop} {A : Option Addr} {n c m : Nat} {ls : List (List UInt8)} (h : StrAt w S (.slice A n c) ls) (hm : m ≤ n) :
    ∃ A' : Option Addr, (∀ W : World, (Instr.slice 59 (.slice A n c) none (some (.int .i64 (m : Int))) none).run Try.prog W = .ok (.slice A' m c) W) ∧ StrAt w S (.slice A' m c) (ls.take m) := by
  obtain ⟨A0, c0, e, hc, hr, hS⟩ := h
  injection e with e1 e2 e3
  subst e1; subst e2; subst e3
  have hlt : (ls.take m).length = m := by rw [List.length_take]; omega
  have ht : Try.prog.underlying 59 = some (.slice 9) := Try.underlying59
  have hsz : (Try.prog.info? 9).map (·.size) = some 1 := by kernel_rfl
  obtain ⟨j, hj, hjs⟩ := Option.map_eq_some_iff.1 hsz
  refine ⟨if c = 0 then A else A.map (·.add 0), fun W => ?_, if c = 0 then A else A.map (·.add 0), c, by rw [hlt], by omega, ⟨by rw [svs, List.length_map], fun h0 => ?_⟩, fun ad ea => ?_⟩
  · have hel : Try.prog.elem 59 = 9 := by simp [Program.elem, ht]
    have hu : Try.prog.underlying 59 = some (.slice (Try.prog.elem 59)) := by rw [hel]; exact ht
    rw [run_slice_h W _ A _ c hu .i64 (m : Int) (Int.natCast_nonneg _) (by omega), hel]
    simp [sizeOf, typeInfo, hj, hjs, sliced, Result.andThen]
  · obtain ⟨ad, rfl, hcell⟩ := hr.2 (by omega)
    rw [if_neg (by omega)]
    refine ⟨ad.add 0, rfl, fun j u hu => ?_⟩
    rw [add_zero']
    refine hcell j u ?_
    rw [svs, List.getElem?_map] at hu ⊢
    rw [List.getElem?_take] at hu
    split at hu
    · exact hu
    · cases hu
  · split at ea
    · exact hS ad ea
    · cases A with
      | none => cases ea
      | some a0 => injection ea with ea; subst ea; exact hS a0 rfl

/-- what next and failed are -/
def NextAt (w : World) (S : Nat → Prop) (X : Value) (F : Bool) (nxt : Option (List (List UInt8))) : Prop :=
  (F = false ∧ nxt = none) ∨ ∃ L, F = true ∧ nxt = some L ∧ StrAt w S X L
theorem NextAt.only {w w' : World} {S : Nat → Prop} {X : Value} {F : Bool} {nxt : Option (List (List UInt8))} (h : NextAt w S X F nxt) (ho : OnlyS S w w') : NextAt w' S X F nxt := by
  rcases h with h | ⟨L, h1, h2, h3⟩
  · exact .inl h
  · exact .inr ⟨L, h1, h2, h3.only ho⟩
/-- what a disk and its log say to the law -/
structure LastsD (D : DS) (W : WS) (k : Nat) (now : List (List UInt8)) (s : Nat) (nxt : Option (List (List UInt8))) : Prop where
  kept : ∃ f g, Kept D f g now s nxt ∧ g ≤ 1 + k
  live : D.off = false → Live D W now s ∧ W.gen ≤ 1 + k ∧ nxt = none
  steps : D.steps ≤ 10 + 3 * k
  lives : D.lives = 0
  sizes : now.flatten.length ≤ 2000 + 300 * k ∧ now.length ≤ 10 + k ∧ (∀ L, nxt = some L → L.length ≤ 10)
theorem LastsD.app {D : DS} {W : WS} {k : Nat} {now : List (List UInt8)} {s : Nat} {nxt : Option (List (List UInt8))} (h : LastsD D W k now s nxt) (ho : D.off = false) (hk : k ≤ 20) {r : List UInt8} (hr : r.length ≤ 300) :
    ((wApp D W r).2.2 = 0 ∧ LastsD (wApp D W r).1 (wApp D W r).2.1 (k + 1) (now ++ [r]) s nxt) ∨ ((wApp D W r).2.2 = 6 ∧ LastsD (wApp D W r).1 (wApp D W r).2.1 (k + 1) now s nxt) := by
  obtain ⟨hL, hg, rfl⟩ := h.live ho
  have hfl := hL.kept.flat
  obtain ⟨hz1, hz2, hz3⟩ := h.sizes
  obtain ⟨h1, h2, h3⟩ := hL.app r (by omega) (by omega)
  have hst := h.steps
  have hlv := h.lives
  generalize wApp D W r = R at *
  rcases h1 with ⟨e1, e2, e3⟩ | ⟨e1, e2, e3⟩
  · refine .inl ⟨e1, ⟨_, _, e2.kept, by omega⟩, fun _ => ⟨e2, by omega, rfl⟩, by omega, by omega, ?_, by rw [List.length_append]; simp; omega, fun L hL => by cases hL⟩
    rw [List.flatten_append, List.length_append]; simp only [List.flatten_cons, List.flatten_nil, List.append_nil]; omega
  · exact .inr ⟨e1, ⟨_, _, e3, by omega⟩, fun h => (by rw [e2] at h; cases h), by omega, by omega, by omega, by omega, fun L hL => by cases hL⟩
theorem LastsD.sync {D : DS} {W : WS} {k : Nat} {now : List (List UInt8)} {s : Nat} {nxt : Option (List (List UInt8))} (h : LastsD D W k now s nxt) (ho : D.off = false) :
    ((wSync D W).2.2 = 0 ∧ LastsD (wSync D W).1 (wSync D W).2.1 (k + 1) now now.length nxt) ∨ ((wSync D W).2.2 = 6 ∧ LastsD (wSync D W).1 (wSync D W).2.1 (k + 1) now s nxt) := by
  obtain ⟨hL, hg, rfl⟩ := h.live ho
  obtain ⟨hz1, hz2, hz3⟩ := h.sizes
  obtain ⟨h1, h2, h3⟩ := hL.sync
  have hst := h.steps
  have hlv := h.lives
  generalize wSync D W = R at *
  rcases h1 with ⟨e1, e2, e3⟩ | ⟨e1, e2, e3⟩
  · exact .inl ⟨e1, ⟨_, _, e2.kept, by omega⟩, fun _ => ⟨e2, by omega, rfl⟩, by omega, by omega, by omega, by omega, fun L hL => by cases hL⟩
  · exact .inr ⟨e1, ⟨_, _, e3, by omega⟩, fun h => (by rw [e2] at h; cases h), by omega, by omega, by omega, by omega, fun L hL => by cases hL⟩
theorem LastsD.rew {D : DS} {W : WS} {k : Nat} {now : List (List UInt8)} {s : Nat} {nxt : Option (List (List UInt8))} (h : LastsD D W k now s nxt) (ho : D.off = false) (hk : k ≤ 20) {L : List (List UInt8)} (hl1 : L.length ≤ 10) (hl2 : L.flatten.length ≤ 2000) :
    ((wRew D W L).2.2 = 0 ∧ LastsD (wRew D W L).1 (wRew D W L).2.1 (k + 1) L L.length nxt) ∨ ((wRew D W L).2.2 = 6 ∧ LastsD (wRew D W L).1 (wRew D W L).2.1 (k + 1) now s (some L)) := by
  obtain ⟨hL, hg, rfl⟩ := h.live ho
  obtain ⟨hz1, hz2, hz3⟩ := h.sizes
  have hlong : tooLong L = false := by
    unfold tooLong
    rw [List.any_eq_false]
    intro r hr
    obtain ⟨j, hj⟩ := List.mem_iff_getElem?.1 hr
    have := one_le_flat hj
    simp; omega
  obtain ⟨h1, h2, h3⟩ := hL.rew L hlong (by omega) (by rw [fileOf_length]; omega)
  have hst := h.steps
  have hlv := h.lives
  generalize wRew D W L = R at *
  rcases h1 with ⟨e1, e2, e3⟩ | ⟨e1, e2, e3⟩
  · exact .inl ⟨e1, ⟨_, _, e2.kept, by omega⟩, fun _ => ⟨e2, by omega, rfl⟩, by omega, by omega, by omega, by omega, fun L hL => by cases hL⟩
  · exact .inr ⟨e1, ⟨_, _, e3, by omega⟩, fun h => (by rw [e2] at h; cases h), by omega, by omega, by omega, by omega, fun L' hL => by injection hL with hL; subst hL; exact hl1⟩
theorem live_first : LastsD bo1.1 bw1 0 [] 0 none := by
  obtain ⟨a1, a2, a3, a4, a5, a6⟩ := bw1_is
  obtain ⟨b1, b2, b3, b4, b5, b6⟩ := bo1_is
  have hK : Kept bo1.1 bw1.f bw1.gen [] 0 none := by
    rw [a1, a2]
    refine ⟨.inl rfl, by decide, ⟨[], [], 0, by rw [b1]; simp, rfl, Nat.le_refl _, rfl, by decide +kernel⟩, rfl, .inl fun k x hx => ?_⟩
    rw [show otherF 0 = 1 from rfl, b2, List.take_nil, look_nil] at hx
    cases hx
  exact ⟨⟨_, _, hK, by rw [a2]; decide⟩, fun _ => ⟨⟨hK, b3, by rw [b5, a5], a6, a3, by rw [a1, a4, b1]; decide⟩, by rw [a2]; decide, rfl⟩, by rw [b6]; decide, b5, ⟨by decide, by decide, fun L hL => by cases hL⟩⟩
theorem LastsD.arm {D : DS} {W : WS} {k : Nat} {now : List (List UInt8)} {s : Nat} {nxt : Option (List (List UInt8))} (h : LastsD D W k now s nxt) (a : Int) : LastsD { D with armed := a } W k now s nxt :=
  ⟨by obtain ⟨f, g, h1, h2⟩ := h.kept; exact ⟨f, g, h1.like rfl rfl, h2⟩, fun ho => by
    obtain ⟨h1, h2, h3⟩ := h.live ho
    exact ⟨⟨h1.kept.like rfl rfl, h1.off, h1.live, h1.done, h1.recs, h1.size⟩, h2, h3⟩, h.steps, h.lives, h.sizes⟩
theorem Says.like {D D' : DS} {R : List (List UInt8)} {f : Int} {g : Nat} {tail : List UInt8} (h : Says D R f g tail) (hb : D'.b = D.b) (hl : D'.l = D.l) : Says D' R f g tail :=
  ⟨h.file, h.gen, by rw [hb]; exact h.cont, h.tail, h.long, by rw [hb]; exact h.low, by rw [hb, hl]; exact h.last⟩
/-- Open, whatever it answers -/
theorem OpenPost.any {X : Nat → Prop} {w : World} {d b : Nat} {sw : Bool} {D : DS} {e : Ending} {w' : World} (h : OpenPost X w d b sw D e w') :
    ∃ v, e = .returned v ∧ (∃ V', DiskAt X w' d b sw V' (wOpen D).1) ∧ OnlyD d b w w' := by
  rcases h with ⟨W', p, B, m, c, h1, h2, ⟨V', h3⟩, h4, h5, h6, h7, h8⟩ | ⟨h1, h2, h3, ⟨V', h4⟩, h5⟩
  · exact ⟨_, h2, ⟨V', h3.imp fun k _ hk => hk.1⟩, h8⟩
  · exact ⟨_, h3, ⟨V', h4⟩, h5⟩
theorem wopen_steps (D : DS) : (wOpen D).1.steps ≤ D.steps + 3 ∧ (wOpen D).1.lives = D.lives := by
  have hs : ∀ L, (wRew D (wFirst D) L).1.steps ≤ D.steps + 3 ∧ (wRew D (wFirst D) L).1.lives = D.lives := fun L => by
    unfold wRew
    split
    · simp
    split
    · simp
    split
    · simp
    have h1 := clearR_steps D (otherF (wFirst D).f)
    have k1 := clearR_lives D (otherF (wFirst D).f)
    simp only
    generalize D.clearR (otherF (wFirst D).f) = C at *
    split
    · simp only; omega
    have h2 := appR_steps C.1 (otherF (wFirst D).f) (fileOf ((wFirst D).gen + 1) L)
    have k2 := appR_lives C.1 (otherF (wFirst D).f) (fileOf ((wFirst D).gen + 1) L)
    generalize C.1.appR (otherF (wFirst D).f) (fileOf ((wFirst D).gen + 1) L) = A at *
    split
    · simp only; omega
    have h3 := syncR_steps A.1 (otherF (wFirst D).f)
    have k3 := syncR_lives A.1 (otherF (wFirst D).f)
    generalize A.1.syncR (otherF (wFirst D).f) = S at *
    split
    · simp only; omega
    · simp only; omega
  unfold wOpen
  split
  · simp
  split
  · split
    · exact hs _
    · exact hs _
  · simp

/-- the state of the rounds -/
structure LastsAt (w0 : World) (p d b : Nat) (k : Nat) (N X : Value) (s : Nat) (F : Bool) (wr : World) : Prop where
  at_ : ∃ D W V now nxt, DiskAt (fun k => Any k ∧ k ≠ p) wr d b false V D ∧ wr.heap[p]? = some (walCells d W) ∧ LastsD D W k now s nxt ∧ StrAt wr (P3 d b p) N now ∧ NextAt wr (P3 d b p) X F nxt
  below : Below w0.heap.size w0 wr

set_option maxHeartbeats 8000000 in
theorem wallasts_walk (w : World) (A : Option Addr) (n cap : Nat) (os : List Op5) (hr : RdOps w A n os) (hn : n ≤ 140737488355328) (_hc : n ≤ cap)
    (at_ : Int) (ha1 : -9223372036854775808 ≤ at_) (ha2 : at_ ≤ 9223372036854775807)
    (K : Option Addr) (kn kc : Nat) (keep : List Int) (hk : Rd w K kn (keep.map (Value.int .i64))) (hkz : ∀ z ∈ keep, -9223372036854775808 ≤ z ∧ z ≤ 9223372036854775807) (hkn : kn ≤ 140737488355328) (_hkc : kn ≤ kc)
    (again : Int) (hg1 : -9223372036854775808 ≤ again) (hg2 : again ≤ 9223372036854775807)
    (M : Option Addr) (mn mc : Nat) (more : List Int) (hm : Rd w M mn (more.map (Value.int .i64))) (hmz : ∀ z ∈ more, -9223372036854775808 ≤ z ∧ z ≤ 9223372036854775807) (hmn : mn ≤ 140737488355328) (_hmc : mn ≤ mc) :
    Calls Try.prog 7 #[.slice A n cap, .int .i64 at_, .slice K kn kc, .int .i64 again, .slice M mn mc] w fun e w' => e = .returned (.bool true) ∧ Below w.heap.size w w' := by
  go_enter Try.func7, Try.ntmps7
  go_wp2_with fail
  refine (begun_calls w).mono ?_
  rintro e w1 ⟨rfl, hbel1⟩
  go_wp2_with fail
  refine (light_calls A n cap os 20 w1 (hr.below hbel1) hn (by decide)).mono ?_
  rintro e w2 ⟨⟨rfl, hlight⟩ | rfl, rfl⟩
  rotate_left
  · go_wp2_with fail
    go_ret
    exact ⟨rfl, hbel1⟩
  by_cases hk10 : 10 < kn
  · go_wp2_with fail
    go_ret
    exact ⟨rfl, hbel1⟩
  have hd1 : decide ((10 : Int) < kn) = false := decide_eq_false (by omega)
  by_cases hm10 : 10 < mn
  · go_wp2_with fail
    go_ret
    exact ⟨rfl, hbel1⟩
  have hd2 : decide ((10 : Int) < mn) = false := decide_eq_false (by omega)
  go_wp2_with fail
  refine (new_calls Any w1).mono ?_
  rintro e w2 ⟨d, b, V, rfl, hD, hd, hb, hb2⟩
  have hbel2 := below_then hbel1 hb2
  have hwd : w.heap.size ≤ d ∧ w.heap.size ≤ b := ⟨Nat.le_trans hbel1.size hd, Nat.le_trans hbel1.size hb⟩
  clear hbel1 hb2 hd hb
  go_wp2_with fail
  refine (open_calls (X := Any) d b false V DS.new w2 hD (fun _ _ => trivial) (by decide)).mono ?_
  intro e w3 hpost
  obtain ⟨p, B, m, c, rfl, ⟨V3, hD3⟩, hp3, hpw, -, -, ho3⟩ := hpost.some_ bg_one
  change DiskAt (fun k => Any k ∧ k ≠ p) w3 d b false V3 bo1.1 at hD3
  have hlt2 := hD.lt
  have hpd : p ≠ d ∧ p ≠ b := ⟨by omega, by omega⟩
  have hwp : w.heap.size ≤ p := Nat.le_trans hbel2.size hpw
  have hbel3 := hbel2.trans (ho3.below hwd.1 hwd.2 hbel2.size)
  have hS : ∀ k, P3 d b p k → w.heap.size ≤ k := fun k hk => by rcases hk with rfl | rfl | rfl <;> omega
  have hpla := place_calls at_ 40 w3 (by decide) (by decide) ha1 ha2
  have hq1 := Int.emod_lt_of_pos at_ (show (0 : Int) < 40 by decide)
  have hq2 := Int.emod_nonneg at_ (show (40 : Int) ≠ 0 by decide)
  obtain ⟨a, haq⟩ : ∃ a : Int, at_ % ((40 : Nat) : Int) = a := ⟨_, rfl⟩
  rw [haq] at hpla
  clear hpost hD hbel2 ho3 hlt2 hpw ha1 ha2
  go_wp2_with fail
  refine hpla.mono ?_
  rintro e w4 ⟨rfl, rfl⟩
  have harm := arm_calls d b false V3 bo1.1 a w3 hD3 (by omega)
  clear hpla
  go_wp2_with fail
  refine harm.mono ?_
  rintro e w4 ⟨rfl, hD4, ho4⟩
  have hbel4 := hbel3.trans (ho4.below hwd.1 hwd.2 hbel3.size)
  have hp4 := (ho4.block p (heap_lt hp3) hpd.1 hpd.2).trans hp3
  have HG : LastsAt w p d b 0 (.slice none 0 0) (.slice none 0 0) 0 false w4 := ⟨⟨_, bw1, V3, [], none, hD4, hp4, live_first.arm _, StrAt.nil_ _ _, .inl ⟨rfl, rfl⟩⟩, hbel4⟩
  have Hli := Lib.hid hlight.2
  have hn20 := hlight.1
  clear harm ho4 hD3 hp3 hbel3 hD4 hp4 hbel4 hlight hq1 hq2 haq
  go_wp2_with fail
  go_loopw [15, 16, 17, 18, 19] (fun N X s F i wr => ∃ k q : Nat, ∃ f : Bool, k ≤ n ∧ i = .int .i64 k ∧ s = .int .i64 q ∧ F = .bool f ∧ LastsAt w p d b k N X q f wr) (fun _ _ _ _ i _ => n - (intOf i).toNat)
  case atStart => exact ⟨0, 0, false, Nat.zero_le _, rfl, rfl, rfl, HG⟩
  case round =>
    clear HG
    obtain ⟨k, s, F, hkn2, rfl, rfl, rfl, ⟨D, W, V4, now, nxt, hD, hp, hL, hN, hX⟩, hbel⟩ := hrel
    by_cases hlt : k < n
    · obtain ⟨g, q, o, rfl, ho, hok, B, cb, C, cl, Kp, ck, h0, h1, h2, h3, h4, h5, h6, h7, h8, h9, h10, h11⟩ := hr.at_ hlt
      have HA : Hid (∀ U, Below w.heap.size w U → U.cell? ⟨g, q + k * 6 + 3, none⟩ = some (.slice B o.b.length cb) ∧ U.cell? ⟨g, q + k * 6 + 4, none⟩ = some (.slice C o.l.length cl) ∧ Rd U B o.b.length (ub o.b) ∧ RdL U C o.l.length o.l) := Lib.hid (fun U hU => ⟨(hU.cell (World.block_lt_of_cell? w _ h3)).trans h3, (hU.cell (World.block_lt_of_cell? w _ h4)).trans h4, h7.below hU, h9.below hU⟩)
      have c0 : wr.cell? ⟨g, q + k * 6, none⟩ = some (.int .i64 o.kind) := (hbel.cell (World.block_lt_of_cell? w _ h0)).trans h0
      have hk1 : (k : Int) < n := by omega
      have hlo := Hli.out o (List.mem_of_getElem? ho)
      have hdead := dead_calls d b false V4 D wr hD
      cases hoff : D.off
      · rw [hoff] at hdead
        have hpl := place_calls o.kind 3 wr (by decide) (by decide) hok.kind.1 hok.kind.2
        clear h0 h1 h2 h3 h4 h5 h6 h7 h8 h9 h10 h11 ho
        go_wp2_with fail
        refine hdead.mono ?_
        rintro e w5 ⟨rfl, rfl⟩
        clear hdead
        go_wp2_with fail
        refine hpl.mono ?_
        rintro e w5 ⟨rfl, rfl⟩
        have hq1 := Int.emod_lt_of_pos o.kind (show (0 : Int) < 3 by decide)
        have hq2 := Int.emod_nonneg o.kind (show (3 : Int) ≠ 0 by decide)
        generalize hkd : o.kind % ((3 : Nat) : Int) = kd at *
        have hkd : o.kind % 3 = kd := hkd
        clear hpl c0
        obtain ⟨hLi, hLg, -⟩ := hL.live hoff
        have hst := hL.steps
        have hWb : W.bytes ≤ 9000 := by rw [hLi.size, hLi.kept.flat]; have := hL.sizes.1; have := hL.sizes.2.1; omega
        have hWr : W.recs.length ≤ 9000 := by rw [hLi.recs]; have := hL.sizes.2.1; omega
        have hWf := hLi.kept.file
        have hlt4 := hD.lt
        have hltp := heap_lt hp
        clear hLi
        obtain rfl | rfl | rfl : kd = 0 ∨ kd = 1 ∨ kd = 2 := by omega
        · clear hkd hq1 hq2
          obtain ⟨AN, cN, rfl, hcN, hrN, hSN⟩ := hN
          have HrN := Lib.hid hrN
          have HK : Hid (∀ U, Below wr.heap.size wr U → U.cell? ⟨g, q + k * 6 + 3, none⟩ = some (.slice B o.b.length cb) ∧ (convert 35 9 (.slice B o.b.length cb)).run Try.prog U = .ok (.string (txt o.b)) U) := Lib.hid (fun U hU => by
            obtain ⟨x1, -, x2, -⟩ := HA.out U (below_then hbel hU)
            exact ⟨x1, run_str (P := Try.prog) (dst := 9) Try.underlying35 Try.underlying5 Try.underlying9 x2 cb⟩)
          have hnl : now.length ≤ 40 := by have := hL.sizes.2.1; omega
          obtain ⟨i0, hi0, hzi0, hzi1, hzi2⟩ := info_parts info_string
          have hone : ∀ u ∈ svs now, u.oneCell' = true := fun u hu => by
            rw [svs, List.mem_map] at hu
            obtain ⟨x, -, rfl⟩ := hu
            rfl
          obtain ⟨W1, hW1⟩ : ∃ W1 : World, W1 = (wr.alloc (.cells #[] 9)).drew := ⟨_, rfl⟩
          have hbU : Below wr.heap.size wr W1 := by rw [hW1]; exact ((Below.refl wr.heap.size wr).alloc (Nat.le_refl _) _).drew
          have hs1 : W1.heap.size = wr.heap.size + 1 := by rw [hW1]; simp [World.drew]
          have Ho1 : Hid (W1.ownsRow wr.heap.size 9 1 (.slice (some ⟨wr.heap.size, 0, none⟩) 0 0) 0 []) := Lib.hid (by
            rw [hW1]
            exact ⟨rfl, .inr ⟨_, 0, #[], rfl, Nat.le_refl _, alloc_new wr _ _ rfl, Nat.le_refl _, by decide, rfl, rfl⟩⟩)
          have Ho3 : Hid ((W1.alloc (.cells #[.string (txt o.b)] 9)).ownsRow wr.heap.size 9 1 (.slice (some ⟨wr.heap.size, 0, none⟩) 0 0) 0 []) := Lib.hid (Ho1.out.alloc _)
          have Hb1 := Lib.hid hbU
          have Hb3 := Lib.hid (hbU.alloc hbU.size (.cells #[.string (txt o.b)] 9))
          have Hr3 : Hid (Rd (W1.alloc (.cells #[.string (txt o.b)] 9)) (some ⟨W1.heap.size, 0, none⟩) 1 [.string (txt o.b)]) := Lib.hid (rd_one W1 _ 9)
          have Hs1 := Lib.hid hs1
          obtain ⟨W2, hW2⟩ : ∃ W2 : World, W2 = ((wr.alloc (.cells #[.string (txt o.b)] 9)).alloc (.cells #[] 9)).drew := ⟨_, rfl⟩
          have hb2 : Below wr.heap.size wr W2 := by rw [hW2]; exact (((Below.refl wr.heap.size wr).alloc (Nat.le_refl _) _).alloc (by simp) _).drew
          have hs2 : W2.heap.size = wr.heap.size + 2 := by rw [hW2]; simp [World.drew]
          have Ho2 : Hid (W2.ownsRow wr.heap.size 9 1 (.slice (some ⟨wr.heap.size + 1, 0, none⟩) 0 0) 0 []) := Lib.hid (by
            rw [hW2]
            exact ⟨rfl, .inr ⟨_, 0, #[], rfl, Nat.le_succ _, alloc_new (wr.alloc (.cells #[.string (txt o.b)] 9)) _ _ (by simp), Nat.le_refl _, by decide, rfl, rfl⟩⟩)
          have Hb2 := Lib.hid hb2
          have Hr2 : Hid (Rd W2 (some ⟨wr.heap.size, 0, none⟩) 1 [.string (txt o.b)]) := Lib.hid (by
            rw [hW2]
            exact (rd_one wr (.string (txt o.b)) 9).below ((Below.refl _ _).alloc (Nat.le_refl _) _).drew)
          have Hs2 := Lib.hid hs2
          have hb0 : Below wr.heap.size wr wr.drew := (Below.refl wr.heap.size wr).drew
          subst hW1 hW2
          clear hs1 hs2 hb2
          have HD := Lib.hid hD
          have Hp := Lib.hid hp
          have HX := Lib.hid hX
          have HL := Lib.hid hL
          have Hr := Lib.hid (And.intro hr (And.intro hk hm))
          have Hbel := Lib.hid hbel
          have Hoff := Lib.hid hoff
          clear hrN hD hp hX hL hk hm hr hoff hkz hmz hbel
          go_wp2_with fail
          go_region_held3 (fun U => U.cell? ⟨g, q + k * 6 + 3, none⟩ = some (.slice B o.b.length cb) ∧ (convert 35 9 (.slice B o.b.length cb)).run Try.prog U = .ok (.string (txt o.b)) U)
            (first | exact HK.out _ hb0 | exact HK.out _ (hb0.alloc hb0.size _) | exact HK.out _ ((hb0.alloc hb0.size _).alloc (hb0.alloc hb0.size _).size _) | exact HK.out _ hbU | exact HK.out _ (hbU.alloc hbU.size _) | exact HK.out _ ((hbU.alloc hbU.size _).alloc (hbU.alloc hbU.size _).size _))
            (first
              | (rw [if_pos (by rfl)]; refine wp_append_any _ (.tmp 91) (.tmp 92) 59 rfl wr.heap.size 9 i0 (.string ⟨#[]⟩) 1 16 Try.underlying59 hi0 hzi0 hzi1 hzi2 rfl (by decide) (.slice (some ⟨wr.heap.size, 0, none⟩) 0 0) _ _ (by simp [Act.eval, Act.put]) Ho1.out AN now.length cN (svs now) (by simp [Act.eval, Act.put]) (HrN.out.below Hb1.out) rfl hone (by unfold maxLen; omega) (by omega) Hb1.out.size ?_
                 intro v6 w6 hown6 hg6 _
                 have hown6 := own_zero hown6
                 have hb6 := Hb1.out.grown hg6 Hb1.out.size (fun k hk => own_base Ho1.out k hk)
                 have HoD := Lib.hid (hown6.alloc (.cells #[.string (txt o.b)] 9))
                 have HrD := Lib.hid (rd_one w6 (.string (txt o.b)) 9)
                 have HbD := Lib.hid (hb6.alloc hb6.size (.cells #[.string (txt o.b)] 9))
                 clear hbU
                 have hbU := hb6
                 clear hown6 hg6 hb6)
              | (rw [if_pos (by rfl)]; refine wp_append_any _ (.tmp 91) (.tmp 92) 59 rfl wr.heap.size 9 i0 (.string ⟨#[]⟩) 1 16 Try.underlying59 hi0 hzi0 hzi1 hzi2 rfl (by decide) (.slice (some ⟨wr.heap.size + 1, 0, none⟩) 0 0) _ _ (by simp [Act.eval, Act.put]) Ho2.out AN now.length cN (svs now) (by simp [Act.eval, Act.put]) (HrN.out.below Hb2.out) rfl hone (by unfold maxLen; omega) (by omega) Hb2.out.size ?_
                 intro v6 w6 hown6 hg6 _
                 have hown6 := own_zero hown6
                 have hb6 := Hb2.out.grown hg6 Hb2.out.size (fun k hk => own_base Ho2.out k hk)
                 have HoD := Lib.hid hown6
                 have HrD := Lib.hid (Hr2.out.at_block (fun ad e => by injection e with e; subst e; exact hg6.block _ (by have := Hs2.out; simp; try omega) (by have := Hs2.out; simp only [Value.ownBlock]; intro h; injection h with h; omega)))
                 have HbD := Lib.hid hb6
                 clear hbU
                 have hbU := hb6
                 clear hown6 hg6 hb6)
              | (rw [if_pos (by rfl)]; refine wp_append_any _ (.tmp 91) (.tmp 92) 59 rfl wr.heap.size 9 i0 (.string ⟨#[]⟩) 1 16 Try.underlying59 hi0 hzi0 hzi1 hzi2 rfl (by decide) (.slice (some ⟨wr.heap.size, 0, none⟩) 0 0) _ _ (by simp [Act.eval, Act.put]) Ho3.out AN now.length cN (svs now) (by simp [Act.eval, Act.put]) (HrN.out.below Hb3.out) rfl hone (by unfold maxLen; omega) (by omega) Hb3.out.size ?_
                 intro v6 w6 hown6 hg6 _
                 have hown6 := own_zero hown6
                 have hb6 := Hb3.out.grown hg6 Hb3.out.size (fun k hk => own_base Ho3.out k hk)
                 have HoD := Lib.hid hown6
                 have HrD := Lib.hid (Hr3.out.at_block (fun ad e => by injection e with e; subst e; exact hg6.block _ (by have := Hs1.out; simp; try omega) (by have := Hs1.out; simp only [Value.ownBlock]; intro h; injection h with h; omega)))
                 have HbD := Lib.hid hb6
                 clear hbU
                 have hbU := hb6
                 clear hown6 hg6 hb6)
              | (rw [if_pos (by rfl)]; refine wp_append_any _ (.tmp 93) (.tmp 100) 59 rfl wr.heap.size 9 i0 (.string ⟨#[]⟩) 1 16 Try.underlying59 hi0 hzi0 hzi1 hzi2 rfl (by decide) v6 _ _ (by simp [Act.eval, Act.put]) HoD.out _ 1 1 [.string (txt o.b)] (by simp [Act.eval, Act.put]) HrD.out rfl (one_one rfl) (by unfold maxLen; omega) (by omega) HbD.out.size ?_
                 intro v7 w7 hown7 hg7 _
                 have hb7 := HbD.out.grown hg7 HbD.out.size (fun k hk => own_base HoD.out k hk)
                 have H7 := Lib.hid (And.intro hown7 hb7)
                 clear hbU
                 have hbU := hb7
                 clear hown7 hg7 hb7))
          all_goals
            have hown7 := H7.out.1
            have hb7 := H7.out.2
            have hbel7 := below_then Hbel.out hb7
            obtain ⟨c3, -, hrB, -⟩ := HA.out _ hbel7
            have hD7 := HD.out.move hb7
            have hp7 := (hb7.block p hltp).trans Hp.out
            have hX7 := HX.out.only (OnlyS.of_below hb7)
            have hN7 : StrAt w7 (P3 d b p) v7 (now ++ [o.b]) := StrAt.own (n := now.length + 1) (by rw [svs, List.map_append]; exact hown7) (fun k hk => by rcases hk with rfl | rfl | rfl <;> omega)
            have happ := wapp_calls p d b false V4 D W B o.b.length cb o.b w7 hp7 hD7 hpd (fun k h => h.2) (fun k hk => ⟨trivial, by have := heap_lt hp7; omega⟩) (by omega) hrB (by have := hlo.1; omega) (by omega) (by omega)
            have hstep := HL.out.app Hoff.out (by omega) hlo.1
            have hnl7 : (now ++ [o.b]).length = now.length + 1 := by simp
            obtain ⟨A7, c7, rfl, hc7, hr7, hS7⟩ := hN7
            rw [hnl7] at hc7 hr7
            have hN7 : StrAt w7 (P3 d b p) (.slice A7 (now.length + 1) c7) (now ++ [o.b]) := ⟨A7, c7, by rw [hnl7], by omega, by rw [hnl7]; exact hr7, hS7⟩
            have hval : Value.slice A7 (now ++ [o.b]).length c7 = .slice A7 (now.length + 1) c7 := by rw [hnl7]
            clear HK HrN Ho1 Ho2 Ho3 Hb1 Hb2 Hb3 Hr2 Hr3 Hs1 Hs2 hbU hb0 HoD HrD HbD H7 hown7 hb7 hone hi0 hzi0 hzi1 hzi2 hD7 hp7 hrB hc7 hr7 hS7 hnl7 hSN hcN
            simp only [hval]
            clear hval
            go_wp2_with fail
            refine happ.mono ?_
            rintro e w8 ⟨rfl, ⟨V8, hD8⟩, hp8, ho8⟩
            have hbel8 := hbel7.trans (ho8.below hS hbel7.size)
            have hX8 := hX7.only ho8
            have hN8 := hN7.only ho8
            clear happ hbel7 hX7 hN7 c3 ho8
            generalize wApp D W o.b = R at *
            obtain ⟨R1, R2, R3⟩ := R
            simp only at hD8 hp8 hstep ⊢
            rcases hstep with ⟨rfl, hL8⟩ | ⟨rfl, hL8⟩
            · have HG8 : Hid (LastsAt w p d b (k + 1) (.slice A7 (now.length + 1) c7) u16 s F w8) := Lib.hid ⟨⟨R1, R2, V8, _, nxt, hD8, hp8, hL8, hN8, hX8⟩, hbel8⟩
              clear hD8 hp8 hL8 hN8 hX8 hbel8
              go_wp2_with fail
              go_roundw
              case rel => exact ⟨k + 1, s, F, by omega, by go_num, rfl, rfl, HG8.out⟩
              case measure => simp [intOf]; omega
            · obtain ⟨A8, hcut, hN9⟩ := hN8.cut (m := now.length) (by omega)
              rw [List.take_left] at hN9
              have HG8 : Hid (LastsAt w p d b (k + 1) (.slice A8 now.length c7) u16 s F w8) := Lib.hid ⟨⟨R1, R2, V8, _, nxt, hD8, hp8, hL8, hN9, hX8⟩, hbel8⟩
              clear hD8 hp8 hL8 hN8 hN9 hX8 hbel8
              go_wp2_with fail
              go_roundw
              case rel => exact ⟨k + 1, s, F, by omega, by go_num, rfl, rfl, HG8.out⟩
              case measure => simp [intOf]; omega
        · clear hkd hq1 hq2
          have hsync := wsync_calls p d b false V4 D W wr hp hD hpd (fun k h => h.2) (by omega)
          have hstep := hL.sync hoff
          obtain ⟨AN, cN, rfl, hcN, hrN, hSN⟩ := hN
          have hN : StrAt wr (P3 d b p) (.slice AN now.length cN) now := ⟨AN, cN, rfl, hcN, hrN, hSN⟩
          clear hD hp hL hcN hrN hSN hoff
          go_wp2_with fail
          refine hsync.mono ?_
          rintro e w8 ⟨rfl, ⟨V8, hD8⟩, hp8, ho8⟩
          have hbel8 := hbel.trans (ho8.below hS hbel.size)
          have hX8 := hX.only ho8
          have hN8 := hN.only ho8
          clear hsync hbel hX hN ho8
          generalize wSync D W = R at *
          obtain ⟨R1, R2, R3⟩ := R
          simp only at hD8 hp8 hstep ⊢
          rcases hstep with ⟨rfl, hL8⟩ | ⟨rfl, hL8⟩
          · have HG8 : Hid (LastsAt w p d b (k + 1) (.slice AN now.length cN) u16 now.length F w8) := Lib.hid ⟨⟨R1, R2, V8, _, nxt, hD8, hp8, hL8, hN8, hX8⟩, hbel8⟩
            clear hD8 hp8 hL8 hN8 hX8 hbel8
            go_wp2_with fail
            go_roundw
            case rel => exact ⟨k + 1, now.length, F, by omega, by go_num, rfl, rfl, HG8.out⟩
            case measure => simp [intOf]; omega
          · have HG8 : Hid (LastsAt w p d b (k + 1) (.slice AN now.length cN) u16 s F w8) := Lib.hid ⟨⟨R1, R2, V8, _, nxt, hD8, hp8, hL8, hN8, hX8⟩, hbel8⟩
            clear hD8 hp8 hL8 hN8 hX8 hbel8
            go_wp2_with fail
            go_roundw
            case rel => exact ⟨k + 1, s, F, by omega, by go_num, rfl, rfl, HG8.out⟩
            case measure => simp [intOf]; omega
        · clear hkd hq1 hq2
          obtain ⟨-, c4, -, hrC⟩ := HA.out _ hbel
          have hrew := wrew_calls p d b false V4 D W C o.l.length cl o.l wr hp hD hpd (fun k h => h.2) (fun k hk => ⟨trivial, by omega⟩) (by omega) hrC (by have := hlo.2.1; omega) (by have := hlo.2.2.1; omega) (by omega) (.inr hWf)
          have hstep := hL.rew hoff (by omega) hlo.2.1 hlo.2.2.1
          clear hD hp hL hoff hrC
          go_wp2_with fail
          refine hrew.mono ?_
          rintro e w8 ⟨rfl, ⟨V8, hD8⟩, hp8, ho8⟩
          have hbel8 := hbel.trans (ho8.below hS hbel.size)
          have hX8 := hX.only ho8
          have hN8 := hN.only ho8
          have hlt8 := hD8.lt
          have hltp8 := heap_lt hp8
          clear hrew hbel hX hN ho8 c4
          generalize wRew D W o.l = R at *
          obtain ⟨R1, R2, R3⟩ := R
          simp only at hD8 hp8 hstep ⊢
          obtain ⟨-, c4, -, hrC⟩ := HA.out _ hbel8
          have htx := texts_calls C o.l.length cl o.l w8 hrC (by have := hlo.2.1; omega)
          rcases hstep with ⟨rfl, hL8⟩ | ⟨rfl, hL8⟩
          · clear hrC
            go_wp2_with fail
            refine htx.mono ?_
            rintro e w9 ⟨⟨v, rfl, hown⟩, hb9⟩
            have hN9 : StrAt w9 (P3 d b p) v o.l := StrAt.own hown (fun k hk => by rcases hk with rfl | rfl | rfl <;> omega)
            obtain ⟨A9, c9, rfl, h91, h92, h93⟩ := hN9
            have HG9 : Hid (LastsAt w p d b (k + 1) (.slice A9 o.l.length c9) u16 o.l.length F w9) := Lib.hid ⟨⟨R1, R2, V8, _, nxt, hD8.move hb9, (hb9.block p hltp8).trans hp8, hL8, ⟨A9, c9, rfl, h91, h92, h93⟩, hX8.only (OnlyS.of_below hb9)⟩, below_then hbel8 hb9⟩
            clear hD8 hp8 hL8 hN8 hX8 hbel8 htx hown hb9 h91 h92 h93 c4
            go_wp2_with fail
            go_roundw
            case rel => exact ⟨k + 1, o.l.length, F, by omega, by go_num, rfl, rfl, HG9.out⟩
            case measure => simp [intOf]; omega
          · clear hrC
            go_wp2_with fail
            refine htx.mono ?_
            rintro e w9 ⟨⟨v, rfl, hown⟩, hb9⟩
            have hX9 : StrAt w9 (P3 d b p) v o.l := StrAt.own hown (fun k hk => by rcases hk with rfl | rfl | rfl <;> omega)
            have HG9 : Hid (LastsAt w p d b (k + 1) u15 v s true w9) := Lib.hid ⟨⟨R1, R2, V8, _, _, hD8.move hb9, (hb9.block p hltp8).trans hp8, hL8, hN8.only (OnlyS.of_below hb9), .inr ⟨o.l, rfl, rfl, hX9⟩⟩, below_then hbel8 hb9⟩
            clear hD8 hp8 hL8 hN8 hX8 hbel8 htx hown hb9 hX9 c4
            go_wp2_with fail
            go_roundw
            case rel => exact ⟨k + 1, s, true, by omega, by go_num, rfl, rfl, HG9.out⟩
            case measure => simp [intOf]; omega
      · rw [hoff] at hdead
        clear h0 h1 h2 h3 h4 h5 h6 h7 h8 h9 h10 h11 ho HA c0 hoff
        obtain ⟨f, g0, hK, hg0⟩ := hL.kept
        obtain ⟨R, f1, g1, t1, hS1, hg1', hR⟩ := hK.power hD.ok (by omega) keep
        have hlv := hL.lives
        have hst := hL.steps
        have hsz := hL.sizes.2
        have hsl := hK.safe_le
        have HF := Lib.hid (And.intro hS1 (And.intro (show g1 ≤ 30 by omega) (And.intro hR (And.intro hsz hsl))))
        have hlt4 := hD.lt
        have hpl := heap_lt hp
        go_wp2_with fail
        refine hdead.mono ?_
        rintro e w5 ⟨rfl, rfl⟩
        clear hdead
        go_wp2_with fail
        refine (power_calls d b false V4 D K kn kc keep wr hD (fun w' ho => hk.below (hbel.trans (ho.below hwd.1 hwd.2 hbel.size))) hkz (by omega) (by omega)).mono ?_
        rintro e w5 ⟨rfl, ⟨V5, hD5⟩, ho5⟩
        have hbel5 := hbel.trans (ho5.below hwd.1 hwd.2 hbel.size)
        have hN5 := hN.only (OnlyS.of_d ho5 (.inl rfl) (.inr (.inl rfl)))
        have hX5 := hX.only (OnlyS.of_d ho5 (.inl rfl) (.inr (.inl rfl)))
        replace hpl := Nat.lt_of_lt_of_le hpl ho5.size
        have e1 : (D.power keep).off = false := rfl
        have e2 : (D.power keep).lives = 1 := by show D.lives + 1 = 1; omega
        have e3 : (D.power keep).steps ≤ 80 := by show D.steps ≤ 80; omega
        have hpla := place_calls again 6 w5 (by decide) (by decide) hg1 hg2
        have hq1 := Int.emod_lt_of_pos again (show (0 : Int) < 6 by decide)
        have hq2 := Int.emod_nonneg again (show (6 : Int) ≠ 0 by decide)
        obtain ⟨a2, haq⟩ : ∃ a2 : Int, again % ((6 : Nat) : Int) = a2 := ⟨_, rfl⟩
        rw [haq] at hpla
        clear hD hp hL hK hN hX hbel ho5 hlv hst hsz hsl hR hS1 hg0 hg1'
        generalize D.power keep = D5 at *
        go_wp2_with fail
        refine hpla.mono ?_
        rintro e w6 ⟨rfl, rfl⟩
        have harm := arm_calls d b false V5 D5 a2 w5 hD5 (by omega)
        clear hpla
        go_wp2_with fail
        refine harm.mono ?_
        rintro e w6 ⟨rfl, hD6, ho6⟩
        have hbel6 := hbel5.trans (ho6.below hwd.1 hwd.2 hbel5.size)
        have hN6 := hN5.only (OnlyS.of_d ho6 (.inl rfl) (.inr (.inl rfl)))
        have hX6 := hX5.only (OnlyS.of_d ho6 (.inl rfl) (.inr (.inl rfl)))
        replace hpl := Nat.lt_of_lt_of_le hpl ho6.size
        have hS6 : Says { D5 with armed := max a2 (-1) } R f1 g1 t1 := HF.out.1.like rfl rfl
        have hF2 := HF.out.2
        have e4 : ({ D5 with armed := max a2 (-1) } : DS).off = false := e1
        have e5 : ({ D5 with armed := max a2 (-1) } : DS).lives = 1 := e2
        have e6 : ({ D5 with armed := max a2 (-1) } : DS).steps ≤ 80 := e3
        clear harm hD5 hbel5 hN5 hX5 ho6 hq1 hq2 haq HF e1 e2 e3
        generalize ({ D5 with armed := max a2 (-1) } : DS) = D6 at *
        have hpl6 := hD6.lt
        go_wp2_with fail
        refine (open_calls (X := fun k => Any k ∧ k ≠ p) d b false V5 D6 w6 hD6 (fun k hk => ⟨trivial, by omega⟩) (by omega)).mono ?_
        intro e w7 hpost
        obtain ⟨v, rfl, ⟨V7, hD7⟩, ho7⟩ := hpost.any
        have hbel7 := hbel6.trans (ho7.below hwd.1 hwd.2 hbel6.size)
        have hN7 := hN6.only (OnlyS.of_d ho7 (.inl rfl) (.inr (.inl rfl)))
        have hX7 := hX6.only (OnlyS.of_d ho7 (.inl rfl) (.inr (.inl rfl)))
        replace hpl := Nat.lt_of_lt_of_le hpl ho7.size
        have hso := wopen_steps D6
        obtain ⟨f2, g2, t2, hS7, hg2'⟩ := hS6.again e4 (by omega) hD6.ok hD7.ok more
        clear hpost hD6 hbel6 hN6 hX6 ho7 hS6 e4 hpl6
        generalize (wOpen D6).1 = D7 at *
        go_wp2_with fail
        refine (power_calls d b false V7 D7 M mn mc more w7 hD7 (fun w' ho => hm.below (hbel7.trans (ho.below hwd.1 hwd.2 hbel7.size))) hmz (by omega) (by omega)).mono ?_
        rintro e w8 ⟨rfl, ⟨V8, hD8⟩, ho8⟩
        have hbel8 := hbel7.trans (ho8.below hwd.1 hwd.2 hbel7.size)
        have hN8 := hN7.only (OnlyS.of_d ho8 (.inl rfl) (.inr (.inl rfl)))
        have hX8 := hX7.only (OnlyS.of_d ho8 (.inl rfl) (.inr (.inl rfl)))
        replace hpl := Nat.lt_of_lt_of_le hpl ho8.size
        obtain ⟨o1, -, o3⟩ := hS7.opens rfl rfl (by omega) hD8.ok
        obtain ⟨WO, hWO⟩ := Option.isSome_iff_exists.1 o1
        have e7 : (D7.power more).steps + 3 < 1099511627776 := by show D7.steps + 3 < _; omega
        clear hD7 hbel7 hN7 hX7 ho8 hS7 hso o1
        generalize D7.power more = D8 at *
        go_wp2_with fail
        refine (open_calls (X := fun k => Any k ∧ k ≠ p) d b false V8 D8 w8 hD8 (fun k hk => ⟨trivial, by omega⟩) e7).mono ?_
        intro e w9 hpost
        obtain ⟨p9, B9, m9, c9, rfl, -, -, -, hrl9, hmc9, ho9⟩ := hpost.some_ hWO
        rw [o3] at hrl9
        have hbel9 := hbel8.trans (ho9.below hwd.1 hwd.2 hbel8.size)
        have hN9 := hN8.only (OnlyS.of_d ho9 (.inl rfl) (.inr (.inl rfl)))
        have hX9 := hX8.only (OnlyS.of_d ho9 (.inl rfl) (.inr (.inl rfl)))
        obtain ⟨-, hR, ⟨hsz1, hsz2⟩, hsl⟩ := hF2
        obtain ⟨AN, cN, rfl, hcN, hrN, hSN⟩ := hN9
        have hN9 : StrAt w9 (P3 d b p) (.slice AN now.length cN) now := ⟨AN, cN, rfl, hcN, hrN, hSN⟩
        have hRl := hrl9.len
        clear hpost hD8 hbel8 hN8 hX8 ho9 hWO o3 e5 e6 e7 hcN hrN hSN hpl hlt4 hk hm hr hkz hmz hg1 hg2 Hli
        rcases hR with ⟨j, rfl, hj1, hj2⟩ | rfl
        · rw [List.length_take] at hRl
          obtain rfl : m9 = j := by omega
          obtain ⟨A', hcut, hNc⟩ := hN9.cut (m := m9) hj2
          obtain ⟨A0, c0', e0, -, hrd, -⟩ := hNc
          have hlt9 : (now.take m9).length = m9 := by rw [List.length_take]; omega
          rw [hlt9] at e0 hrd
          injection e0 with e01 e02 e03
          subst e01
          have hal := alike_calls B9 A' m9 m9 c9 cN (now.take m9) (now.take m9) w9 hrl9 hrd (by omega) (by omega)
          rw [decide_eq_true rfl] at hal
          have hb1 : (s : Int) ≤ m9 := by omega
          have hb2 : (m9 : Int) ≤ now.length := by omega
          clear hrl9 hN9 hX9 hrd hlt9 e02 e03
          go_wp2_with fail
          refine hal.mono ?_
          rintro e w10 ⟨rfl, q10, rfl⟩
          have hbel10 := below_then hbel9 (below_drewN (Below.refl w9.heap.size w9) q10)
          go_wp2_with fail
          go_ret
          exact ⟨rfl, hbel10⟩
        · obtain ⟨hF, hnx⟩ | ⟨L, rfl, hL, hXL⟩ := hX9
          · cases hnx
          injection hL with hL
          subst hL
          obtain ⟨AX, cX, rfl, -, hrX, -⟩ := hXL
          rw [hRl] at hrX
          have hm9 : m9 ≤ 10 := by rw [← hRl]; exact hsz2 _ rfl
          have hal := fun U (hU : Below w9.heap.size w9 U) => alike_calls B9 AX m9 m9 c9 cX R R U (hrl9.below hU) (hrX.below hU) (by omega) (by omega)
          rw [decide_eq_true rfl] at hal
          have Hal := Lib.hid hal
          rw [hRl]
          clear hal
          by_cases hb1 : s ≤ m9
          · by_cases hb2 : m9 ≤ now.length
            · obtain ⟨A', hcut, hNc⟩ := hN9.cut (m := m9) hb2
              obtain ⟨A0, c0', e0, -, hrd, -⟩ := hNc
              have hlt9 : (now.take m9).length = m9 := by rw [List.length_take]; omega
              rw [hlt9] at e0 hrd
              injection e0 with e01 e02 e03
              subst e01
              have hal2 := alike_calls B9 A' m9 m9 c9 cN R (now.take m9) w9 hrl9 hrd (by omega) (by omega)
              have hb1' : (s : Int) ≤ m9 := by omega
              have hb2' : (m9 : Int) ≤ now.length := by omega
              clear hrl9 hN9 hrd hlt9 e02 e03 hrX
              by_cases hE : R = now.take m9
              · rw [decide_eq_true hE] at hal2
                clear hE
                go_wp2_with fail
                refine hal2.mono ?_
                rintro e w10 ⟨rfl, q10, rfl⟩
                have hbel10 := below_then hbel9 (below_drewN (Below.refl w9.heap.size w9) q10)
                go_wp2_with fail
                go_ret
                exact ⟨rfl, hbel10⟩
              · rw [decide_eq_false hE] at hal2
                clear hE
                go_wp2_with fail
                refine hal2.mono ?_
                rintro e w10 ⟨rfl, q10, rfl⟩
                have hb10 := below_drewN (Below.refl w9.heap.size w9) q10
                have hbel10 := below_then hbel9 hb10
                have hal3 := Hal.out _ hb10
                clear hb10 hal2
                generalize w9.drewN q10 = w10 at *
                go_wp2_with fail
                refine hal3.mono ?_
                rintro e w11 ⟨rfl, q11, rfl⟩
                have hbel11 := below_then hbel10 (below_drewN (Below.refl w10.heap.size w10) q11)
                go_wp2_with fail
                go_ret
                exact ⟨rfl, hbel11⟩
            · have hal3 := Hal.out _ (Below.refl w9.heap.size w9)
              have hb1' : (s : Int) ≤ m9 := by omega
              have hb2' : ¬ (m9 : Int) ≤ now.length := by omega
              clear hrl9 hN9 hrX
              go_wp2_with fail
              refine hal3.mono ?_
              rintro e w11 ⟨rfl, q11, rfl⟩
              have hbel11 := below_then hbel9 (below_drewN (Below.refl w9.heap.size w9) q11)
              go_wp2_with fail
              go_ret
              exact ⟨rfl, hbel11⟩
          · have hal3 := Hal.out _ (Below.refl w9.heap.size w9)
            have hb1' : ¬ (s : Int) ≤ m9 := by omega
            clear hrl9 hN9 hrX
            go_wp2_with fail
            refine hal3.mono ?_
            rintro e w11 ⟨rfl, q11, rfl⟩
            have hbel11 := below_then hbel9 (below_drewN (Below.refl w9.heap.size w9) q11)
            go_wp2_with fail
            go_ret
            exact ⟨rfl, hbel11⟩
    · obtain rfl : k = n := by omega
      obtain ⟨f, g0, hK, hg0⟩ := hL.kept
      obtain ⟨R, f1, g1, t1, hS1, hg1', hR⟩ := hK.power hD.ok (by omega) keep
      have hlv := hL.lives
      have hst := hL.steps
      have hsz := hL.sizes.2
      have hsl := hK.safe_le
      have HF := Lib.hid (And.intro hS1 (And.intro (show g1 ≤ 30 by omega) (And.intro hR (And.intro hsz hsl))))
      have hlt4 := hD.lt
      have hpl := heap_lt hp
      go_wp2_with fail
      refine (power_calls d b false V4 D K kn kc keep wr hD (fun w' ho => hk.below (hbel.trans (ho.below hwd.1 hwd.2 hbel.size))) hkz (by omega) (by omega)).mono ?_
      rintro e w5 ⟨rfl, ⟨V5, hD5⟩, ho5⟩
      have hbel5 := hbel.trans (ho5.below hwd.1 hwd.2 hbel.size)
      have hN5 := hN.only (OnlyS.of_d ho5 (.inl rfl) (.inr (.inl rfl)))
      have hX5 := hX.only (OnlyS.of_d ho5 (.inl rfl) (.inr (.inl rfl)))
      replace hpl := Nat.lt_of_lt_of_le hpl ho5.size
      have e1 : (D.power keep).off = false := rfl
      have e2 : (D.power keep).lives = 1 := by show D.lives + 1 = 1; omega
      have e3 : (D.power keep).steps ≤ 80 := by show D.steps ≤ 80; omega
      have hpla := place_calls again 6 w5 (by decide) (by decide) hg1 hg2
      have hq1 := Int.emod_lt_of_pos again (show (0 : Int) < 6 by decide)
      have hq2 := Int.emod_nonneg again (show (6 : Int) ≠ 0 by decide)
      obtain ⟨a2, haq⟩ : ∃ a2 : Int, again % ((6 : Nat) : Int) = a2 := ⟨_, rfl⟩
      rw [haq] at hpla
      clear hD hp hL hK hN hX hbel ho5 hlv hst hsz hsl hR hS1 hg0 hg1'
      generalize D.power keep = D5 at *
      go_wp2_with fail
      refine hpla.mono ?_
      rintro e w6 ⟨rfl, rfl⟩
      have harm := arm_calls d b false V5 D5 a2 w5 hD5 (by omega)
      clear hpla
      go_wp2_with fail
      refine harm.mono ?_
      rintro e w6 ⟨rfl, hD6, ho6⟩
      have hbel6 := hbel5.trans (ho6.below hwd.1 hwd.2 hbel5.size)
      have hN6 := hN5.only (OnlyS.of_d ho6 (.inl rfl) (.inr (.inl rfl)))
      have hX6 := hX5.only (OnlyS.of_d ho6 (.inl rfl) (.inr (.inl rfl)))
      replace hpl := Nat.lt_of_lt_of_le hpl ho6.size
      have hS6 : Says { D5 with armed := max a2 (-1) } R f1 g1 t1 := HF.out.1.like rfl rfl
      have hF2 := HF.out.2
      have e4 : ({ D5 with armed := max a2 (-1) } : DS).off = false := e1
      have e5 : ({ D5 with armed := max a2 (-1) } : DS).lives = 1 := e2
      have e6 : ({ D5 with armed := max a2 (-1) } : DS).steps ≤ 80 := e3
      clear harm hD5 hbel5 hN5 hX5 ho6 hq1 hq2 haq HF e1 e2 e3
      generalize ({ D5 with armed := max a2 (-1) } : DS) = D6 at *
      have hpl6 := hD6.lt
      go_wp2_with fail
      refine (open_calls (X := fun k => Any k ∧ k ≠ p) d b false V5 D6 w6 hD6 (fun k hk => ⟨trivial, by omega⟩) (by omega)).mono ?_
      intro e w7 hpost
      obtain ⟨v, rfl, ⟨V7, hD7⟩, ho7⟩ := hpost.any
      have hbel7 := hbel6.trans (ho7.below hwd.1 hwd.2 hbel6.size)
      have hN7 := hN6.only (OnlyS.of_d ho7 (.inl rfl) (.inr (.inl rfl)))
      have hX7 := hX6.only (OnlyS.of_d ho7 (.inl rfl) (.inr (.inl rfl)))
      replace hpl := Nat.lt_of_lt_of_le hpl ho7.size
      have hso := wopen_steps D6
      obtain ⟨f2, g2, t2, hS7, hg2'⟩ := hS6.again e4 (by omega) hD6.ok hD7.ok more
      clear hpost hD6 hbel6 hN6 hX6 ho7 hS6 e4 hpl6
      generalize (wOpen D6).1 = D7 at *
      go_wp2_with fail
      refine (power_calls d b false V7 D7 M mn mc more w7 hD7 (fun w' ho => hm.below (hbel7.trans (ho.below hwd.1 hwd.2 hbel7.size))) hmz (by omega) (by omega)).mono ?_
      rintro e w8 ⟨rfl, ⟨V8, hD8⟩, ho8⟩
      have hbel8 := hbel7.trans (ho8.below hwd.1 hwd.2 hbel7.size)
      have hN8 := hN7.only (OnlyS.of_d ho8 (.inl rfl) (.inr (.inl rfl)))
      have hX8 := hX7.only (OnlyS.of_d ho8 (.inl rfl) (.inr (.inl rfl)))
      replace hpl := Nat.lt_of_lt_of_le hpl ho8.size
      obtain ⟨o1, -, o3⟩ := hS7.opens rfl rfl (by omega) hD8.ok
      obtain ⟨WO, hWO⟩ := Option.isSome_iff_exists.1 o1
      have e7 : (D7.power more).steps + 3 < 1099511627776 := by show D7.steps + 3 < _; omega
      clear hD7 hbel7 hN7 hX7 ho8 hS7 hso o1
      generalize D7.power more = D8 at *
      go_wp2_with fail
      refine (open_calls (X := fun k => Any k ∧ k ≠ p) d b false V8 D8 w8 hD8 (fun k hk => ⟨trivial, by omega⟩) e7).mono ?_
      intro e w9 hpost
      obtain ⟨p9, B9, m9, c9, rfl, -, -, -, hrl9, hmc9, ho9⟩ := hpost.some_ hWO
      rw [o3] at hrl9
      have hbel9 := hbel8.trans (ho9.below hwd.1 hwd.2 hbel8.size)
      have hN9 := hN8.only (OnlyS.of_d ho9 (.inl rfl) (.inr (.inl rfl)))
      have hX9 := hX8.only (OnlyS.of_d ho9 (.inl rfl) (.inr (.inl rfl)))
      obtain ⟨-, hR, ⟨hsz1, hsz2⟩, hsl⟩ := hF2
      obtain ⟨AN, cN, rfl, hcN, hrN, hSN⟩ := hN9
      have hN9 : StrAt w9 (P3 d b p) (.slice AN now.length cN) now := ⟨AN, cN, rfl, hcN, hrN, hSN⟩
      have hRl := hrl9.len
      clear hpost hD8 hbel8 hN8 hX8 ho9 hWO o3 e5 e6 e7 hcN hrN hSN hpl hlt4 hk hm hr hkz hmz hg1 hg2 Hli
      rcases hR with ⟨j, rfl, hj1, hj2⟩ | rfl
      · rw [List.length_take] at hRl
        obtain rfl : m9 = j := by omega
        obtain ⟨A', hcut, hNc⟩ := hN9.cut (m := m9) hj2
        obtain ⟨A0, c0', e0, -, hrd, -⟩ := hNc
        have hlt9 : (now.take m9).length = m9 := by rw [List.length_take]; omega
        rw [hlt9] at e0 hrd
        injection e0 with e01 e02 e03
        subst e01
        have hal := alike_calls B9 A' m9 m9 c9 cN (now.take m9) (now.take m9) w9 hrl9 hrd (by omega) (by omega)
        rw [decide_eq_true rfl] at hal
        have hb1 : (s : Int) ≤ m9 := by omega
        have hb2 : (m9 : Int) ≤ now.length := by omega
        clear hrl9 hN9 hX9 hrd hlt9 e02 e03
        go_wp2_with fail
        refine hal.mono ?_
        rintro e w10 ⟨rfl, q10, rfl⟩
        have hbel10 := below_then hbel9 (below_drewN (Below.refl w9.heap.size w9) q10)
        go_wp2_with fail
        go_ret
        exact ⟨rfl, hbel10⟩
      · obtain ⟨hF, hnx⟩ | ⟨L, rfl, hL, hXL⟩ := hX9
        · cases hnx
        injection hL with hL
        subst hL
        obtain ⟨AX, cX, rfl, -, hrX, -⟩ := hXL
        rw [hRl] at hrX
        have hm9 : m9 ≤ 10 := by rw [← hRl]; exact hsz2 _ rfl
        have hal := fun U (hU : Below w9.heap.size w9 U) => alike_calls B9 AX m9 m9 c9 cX R R U (hrl9.below hU) (hrX.below hU) (by omega) (by omega)
        rw [decide_eq_true rfl] at hal
        have Hal := Lib.hid hal
        rw [hRl]
        clear hal
        by_cases hb1 : s ≤ m9
        · by_cases hb2 : m9 ≤ now.length
          · obtain ⟨A', hcut, hNc⟩ := hN9.cut (m := m9) hb2
            obtain ⟨A0, c0', e0, -, hrd, -⟩ := hNc
            have hlt9 : (now.take m9).length = m9 := by rw [List.length_take]; omega
            rw [hlt9] at e0 hrd
            injection e0 with e01 e02 e03
            subst e01
            have hal2 := alike_calls B9 A' m9 m9 c9 cN R (now.take m9) w9 hrl9 hrd (by omega) (by omega)
            have hb1' : (s : Int) ≤ m9 := by omega
            have hb2' : (m9 : Int) ≤ now.length := by omega
            clear hrl9 hN9 hrd hlt9 e02 e03 hrX
            by_cases hE : R = now.take m9
            · rw [decide_eq_true hE] at hal2
              clear hE
              go_wp2_with fail
              refine hal2.mono ?_
              rintro e w10 ⟨rfl, q10, rfl⟩
              have hbel10 := below_then hbel9 (below_drewN (Below.refl w9.heap.size w9) q10)
              go_wp2_with fail
              go_ret
              exact ⟨rfl, hbel10⟩
            · rw [decide_eq_false hE] at hal2
              clear hE
              go_wp2_with fail
              refine hal2.mono ?_
              rintro e w10 ⟨rfl, q10, rfl⟩
              have hb10 := below_drewN (Below.refl w9.heap.size w9) q10
              have hbel10 := below_then hbel9 hb10
              have hal3 := Hal.out _ hb10
              clear hb10 hal2
              generalize w9.drewN q10 = w10 at *
              go_wp2_with fail
              refine hal3.mono ?_
              rintro e w11 ⟨rfl, q11, rfl⟩
              have hbel11 := below_then hbel10 (below_drewN (Below.refl w10.heap.size w10) q11)
              go_wp2_with fail
              go_ret
              exact ⟨rfl, hbel11⟩
          · have hal3 := Hal.out _ (Below.refl w9.heap.size w9)
            have hb1' : (s : Int) ≤ m9 := by omega
            have hb2' : ¬ (m9 : Int) ≤ now.length := by omega
            clear hrl9 hN9 hrX
            go_wp2_with fail
            refine hal3.mono ?_
            rintro e w11 ⟨rfl, q11, rfl⟩
            have hbel11 := below_then hbel9 (below_drewN (Below.refl w9.heap.size w9) q11)
            go_wp2_with fail
            go_ret
            exact ⟨rfl, hbel11⟩
        · have hal3 := Hal.out _ (Below.refl w9.heap.size w9)
          have hb1' : ¬ (s : Int) ≤ m9 := by omega
          clear hrl9 hN9 hrX
          go_wp2_with fail
          refine hal3.mono ?_
          rintro e w11 ⟨rfl, q11, rfl⟩
          have hbel11 := below_then hbel9 (below_drewN (Below.refl w9.heap.size w9) q11)
          go_wp2_with fail
          go_ret
          exact ⟨rfl, hbel11⟩
end Go.Proofs.Ythcajaadbdiggaa
