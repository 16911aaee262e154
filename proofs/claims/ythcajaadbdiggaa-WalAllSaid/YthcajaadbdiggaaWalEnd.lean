/- Plain facts on a log whose power fails at any step: what is read behind it. -/
import Derived.Test.YthcajaadbdiggaaWalGo
namespace Go.Proofs.Ythcajaadbdiggaa
set_option maxRecDepth 1000000

/-- records, cut off anywhere: whole ones, and a tail that is none -/
theorem cut_encs : ∀ (rs : List (List UInt8)), (∀ l ∈ rs, l.length ≤ 1048576) → ∀ c : Nat, ∃ (j : Nat) (tail : List UInt8), j ≤ rs.length ∧ (rs.map enc).flatten.take c = ((rs.take j).map enc).flatten ++ tail ∧ nextErr tail 0 ≠ 0 ∧
    (∀ s, s ≤ rs.length → ((rs.take s).map enc).flatten.length ≤ c → s ≤ j) ∧ (j = rs.length → tail = [])
  | [], _, c => ⟨0, [], Nat.le_refl _, by simp, nextErr_nil, fun s hs _ => by simpa using hs, fun _ => rfl⟩
  | r :: rs, hm, c => by
    by_cases hc : c < (enc r).length
    · refine ⟨0, (enc r).take c, Nat.zero_le _, ?_, ?_, fun s hs hl => ?_, fun h => by simp at h⟩
      · simp only [List.map_cons, List.flatten_cons, List.take_zero, List.map_nil, List.flatten_nil, List.nil_append]
        rw [List.take_append_of_le_length (by omega)]
      · exact cut_next (r := r) (q := c) (by rw [List.drop_zero]) (by rw [enc_length] at hc; omega) (hm r (by simp))
      · cases s with
        | zero => exact Nat.le_refl _
        | succ s =>
          rw [List.take_succ_cons, List.map_cons, List.flatten_cons, List.length_append] at hl
          omega
    · obtain ⟨j, tail, h1, h2, h3, h4, h5⟩ := cut_encs rs (fun l hl => hm l (by simp [hl])) (c - (enc r).length)
      refine ⟨j + 1, tail, by simpa using h1, ?_, h3, fun s hs hl => ?_, fun h => h5 (by simpa using h)⟩
      · simp only [List.map_cons, List.flatten_cons, List.take_succ_cons, List.append_assoc]
        rw [List.take_append, List.take_of_length_le (by omega), h2]
      · cases s with
        | zero => exact Nat.zero_le _
        | succ s =>
          rw [List.take_succ_cons, List.map_cons, List.flatten_cons, List.length_append] at hl
          have := h4 s (by simpa using hs) (by omega)
          omega
theorem recR_eq (l : List (List UInt8)) : l.map recR = (l.map (fun r => 82 :: r)).map enc := by
  rw [List.map_map]; rfl
theorem long_le {l : List (List UInt8)} (h : tooLong l = false) : ∀ r ∈ l, r.length ≤ 1048575 := fun r hr => by
  have := List.any_eq_false.1 h r hr; simpa using this
theorem long_take {l : List (List UInt8)} (h : tooLong l = false) (k : Nat) : tooLong (l.take k) = false := by
  have e : tooLong (l.take k ++ l.drop k) = false := by rw [List.take_append_drop]; exact h
  rw [tooLong_app] at e
  simp at e; exact e.1
theorem cut_recs {more : List (List UInt8)} (hm : tooLong more = false) (c : Nat) : ∃ (j : Nat) (tail : List UInt8), j ≤ more.length ∧ (more.map recR).flatten.take c = ((more.take j).map recR).flatten ++ tail ∧ nextErr tail 0 ≠ 0 ∧
    (∀ s, s ≤ more.length → ((more.take s).map recR).flatten.length ≤ c → s ≤ j) := by
  obtain ⟨j, tail, h1, h2, h3, h4, _⟩ := cut_encs (more.map (fun r => 82 :: r)) (fun l hl => by
    obtain ⟨r, hr, rfl⟩ := List.mem_map.1 hl
    have := long_le hm r hr; simp; omega) c
  refine ⟨j, tail, by simpa using h1, ?_, h3, fun s hs hl => h4 s (by simpa using hs) ?_⟩
  · rw [recR_eq, h2, recR_eq]; simp only [List.map_take]
  · rw [recR_eq] at hl; simp only [List.map_take] at hl ⊢; exact hl
theorem walkR_no (l : List (List UInt8)) : (walkR (l.map (fun r => 82 :: r)) false).2.1 = false := by
  have := walkR_recs l [] false
  rw [List.append_nil] at this
  rw [this]; rfl
/-- a beginning of a file that was written is the file, or says nothing -/
theorem look_cut {g : Nat} {l : List (List UInt8)} (hl : tooLong l = false) (c : Nat) : (fileOf g l).take c = fileOf g l ∨ lookOf ((fileOf g l).take c) = none := by
  have hf := file_encs g l []
  simp only [List.map_nil, List.flatten_nil, List.append_nil] at hf
  have hlong : ∀ x ∈ ((71 :: be 8 g) :: (l.map (fun r => 82 :: r) ++ [69] :: []) : List (List UInt8)), x.length ≤ 1048576 := by
    intro x hx
    simp only [List.mem_cons, List.mem_append, List.mem_map, List.not_mem_nil, or_false] at hx
    rcases hx with rfl | ⟨r, hr, rfl⟩ | rfl
    · simp [be_length]
    · have := long_le hl r hr; simp; omega
    · simp
  obtain ⟨j, tail, h1, h2, h3, h4, h5⟩ := cut_encs _ hlong c
  rw [← hf] at h2
  by_cases hj : j = ((71 :: be 8 g) :: (l.map (fun r => 82 :: r) ++ [69] :: []) : List (List UInt8)).length
  · left
    rw [h2, h5 hj, hj, List.take_length, ← hf, List.append_nil]
  · right
    rw [h2]
    unfold lookOf
    rw [scan_encs (fun x hx => hlong x (List.mem_of_mem_take hx)) h3]
    simp only
    cases j with
    | zero => rfl
    | succ j =>
      rw [List.take_succ_cons]
      have hjl : j ≤ (l.map (fun r => 82 :: r) : List (List UInt8)).length := by simp at h1 hj ⊢; omega
      rw [List.take_append_of_le_length hjl, ← List.map_take]
      simp only [lookL]
      split
      · rw [walkR_no]; rfl
      · rfl

/-! ### a disk that may fail -/
theorem ask_two {D D' : DS} {f : Int} (ho : D.off = false) (hf : f = 0 ∨ f = 1) : D.askR f D' = if D.armed = 0 then ({ D with off := true }, 6) else (D'.step, 0) := by
  have hm : mayE D f = 0 := by unfold mayE; rw [ho, if_neg (by simp), if_pos hf]
  unfold DS.askR DS.stepR
  rw [if_pos hm]
theorem app_two {D : DS} {f : Int} {ys : List UInt8} (ho : D.off = false) (hf : f = 0 ∨ f = 1) (hs : (D.b f).length + ys.length ≤ 4194304) :
    D.appR f ys = if D.armed = 0 then ({ D with off := true }, 6) else ((D.put f (D.b f ++ ys) (D.l f)).step, 0) := by
  unfold DS.appR
  rw [if_neg (by omega), ask_two ho hf]
theorem puts_b (D : DS) (f : Int) (xs : List UInt8) (n : Nat) : (D.put f xs n).step.b f = xs := by simp [DS.put, DS.step]
theorem puts_l (D : DS) (f : Int) (xs : List UInt8) (n : Nat) : (D.put f xs n).step.l f = n := by simp [DS.put, DS.step]
theorem puto_b (D : DS) {f h : Int} (hne : h ≠ f) (xs : List UInt8) (n : Nat) : (D.put f xs n).step.b h = D.b h := by simp [DS.put, DS.step, hne]
theorem puto_l (D : DS) {f h : Int} (hne : h ≠ f) (xs : List UInt8) (n : Nat) : (D.put f xs n).step.l h = D.l h := by simp [DS.put, DS.step, hne]

/-- what a rewrite leaves, on a disk that may fail at any step -/
structure RewOut (D : DS) (W : WS) (L : List (List UInt8)) (R : DS × WS × Int) : Prop where
  here : R.1.b W.f = D.b W.f ∧ R.1.l W.f = D.l W.f
  lives : R.1.lives = D.lives
  steps : R.1.steps ≤ D.steps + 3
  cases_ : (R.2.2 = 6 ∧ R.1.off = true ∧ (R.1.b (otherF W.f) = D.b (otherF W.f) ∧ R.1.l (otherF W.f) = D.l (otherF W.f) ∨ R.1.b (otherF W.f) = [] ∨ R.1.b (otherF W.f) = fileOf (W.gen + 1) L)) ∨
    (R.2.2 = 0 ∧ R.1.off = false ∧ R.1.b (otherF W.f) = fileOf (W.gen + 1) L ∧ R.1.l (otherF W.f) = (fileOf (W.gen + 1) L).length ∧
      R.2.1 = { W with f := otherF W.f, gen := W.gen + 1, recs := L, bytes := (fileOf (W.gen + 1) L).length })
theorem rew_out {D : DS} {W : WS} {L : List (List UInt8)} (ho : D.off = false) (hov : wOver D W = false) (hl : tooLong L = false) (hg : W.gen + 1 < 4611686018427387904) (hs : (fileOf (W.gen + 1) L).length ≤ 4194304) :
    RewOut D W L (wRew D W L) := by
  have hf := otherF_in W.f
  have hne : W.f ≠ otherF W.f := fun e => otherF_ne _ e.symm
  have hpre : RewPre D W L := ⟨by rw [hov]; simp, by rw [hl]; simp, by omega⟩
  have h1 : D.clearR (otherF W.f) = _ := ask_two (D' := D.put (otherF W.f) [] 0) ho hf
  by_cases a1 : D.armed = 0
  · rw [if_pos a1] at h1
    rw [wRew_clear hpre h1 (by show (6 : Int) ≠ 0; decide)]
    exact ⟨⟨rfl, rfl⟩, rfl, by show D.steps ≤ _; omega, .inl ⟨rfl, rfl, .inl ⟨rfl, rfl⟩⟩⟩
  rw [if_neg a1] at h1
  obtain ⟨C, hC⟩ : ∃ C : DS, C = (D.put (otherF W.f) [] 0).step := ⟨_, rfl⟩
  rw [← hC] at h1
  have hCb : C.b (otherF W.f) = [] := by rw [hC]; exact puts_b _ _ _ _
  have hCl : C.l (otherF W.f) = 0 := by rw [hC]; exact puts_l _ _ _ _
  have hCb2 : C.b W.f = D.b W.f := by rw [hC]; exact puto_b D hne _ _
  have hCl2 : C.l W.f = D.l W.f := by rw [hC]; exact puto_l D hne _ _
  have hCo : C.off = false := by rw [hC]; exact ho
  have hCv : C.lives = D.lives := by rw [hC]; rfl
  have hCs : C.steps = D.steps + 1 := by rw [hC]; rfl
  have h2 := app_two (ys := fileOf (W.gen + 1) L) hCo hf (by rw [hCb]; simpa using hs)
  rw [hCb, List.nil_append, hCl] at h2
  by_cases a2 : C.armed = 0
  · rw [if_pos a2] at h2
    rw [wRew_app hpre h1 rfl h2 (by show (6 : Int) ≠ 0; decide)]
    exact ⟨⟨hCb2, hCl2⟩, hCv, by show C.steps ≤ _; omega, .inl ⟨rfl, rfl, .inr (.inl hCb)⟩⟩
  rw [if_neg a2] at h2
  obtain ⟨A, hA⟩ : ∃ A : DS, A = (C.put (otherF W.f) (fileOf (W.gen + 1) L) 0).step := ⟨_, rfl⟩
  rw [← hA] at h2
  have hAb : A.b (otherF W.f) = fileOf (W.gen + 1) L := by rw [hA]; exact puts_b _ _ _ _
  have hAl : A.l (otherF W.f) = 0 := by rw [hA]; exact puts_l _ _ _ _
  have hAb2 : A.b W.f = D.b W.f := by rw [← hCb2, hA]; exact puto_b C hne _ _
  have hAl2 : A.l W.f = D.l W.f := by rw [← hCl2, hA]; exact puto_l C hne _ _
  have hAo : A.off = false := by rw [hA]; exact hCo
  have hAv : A.lives = D.lives := by rw [← hCv, hA]; rfl
  have hAs : A.steps = D.steps + 2 := by rw [hA]; show C.steps + 1 = _; omega
  have h3 : A.syncR (otherF W.f) = _ := ask_two (D' := A.put (otherF W.f) (A.b (otherF W.f)) (A.b (otherF W.f)).length) hAo hf
  rw [hAb] at h3
  by_cases a3 : A.armed = 0
  · rw [if_pos a3] at h3
    rw [wRew_sync hpre h1 rfl h2 rfl h3 (by show (6 : Int) ≠ 0; decide)]
    exact ⟨⟨hAb2, hAl2⟩, hAv, by show A.steps ≤ _; omega, .inl ⟨rfl, rfl, .inr (.inr hAb)⟩⟩
  rw [if_neg a3] at h3
  rw [wRew_ok hpre h1 rfl h2 rfl h3 rfl]
  refine ⟨⟨?_, ?_⟩, hAv, ?_, .inr ⟨rfl, hAo, ?_, ?_, rfl⟩⟩
  · rw [← hAb2]; exact puto_b A hne _ _
  · rw [← hAl2]; exact puto_l A hne _ _
  · show A.steps + 1 ≤ _; omega
  · exact puts_b _ _ _ _
  · exact puts_l _ _ _ _

/-! ### what stands on the disk -/
/-- what was appended, what is safe, and what a rewrite that failed was to leave -/
structure Kept (D : DS) (f : Int) (g : Nat) (now : List (List UInt8)) (safe : Nat) (nxt : Option (List (List UInt8))) : Prop where
  file : f = 0 ∨ f = 1
  gen : 0 < g
  cont : ∃ l more s, D.b f = fileOf g l ++ (more.map recR).flatten ∧ now = l ++ more ∧ s ≤ more.length ∧ safe = l.length + s ∧ (fileOf g l ++ ((more.take s).map recR).flatten).length ≤ D.l f
  long : tooLong now = false
  low : (∀ k x, lookOf ((D.b (otherF f)).take k) = some x → x.1 < g ∨ (f = 0 ∧ x.1 = g)) ∨ ∃ L, nxt = some L ∧ tooLong L = false ∧ D.b (otherF f) = fileOf (g + 1) L
theorem Kept.safe_le {D : DS} {f : Int} {g : Nat} {now : List (List UInt8)} {safe : Nat} {nxt : Option (List (List UInt8))} (h : Kept D f g now safe nxt) : safe ≤ now.length := by
  obtain ⟨l, more, s, -, rfl, h1, rfl, -⟩ := h.cont
  rw [List.length_append]; omega
theorem Kept.flat {D : DS} {f : Int} {g : Nat} {now : List (List UInt8)} {safe : Nat} {nxt : Option (List (List UInt8))} (h : Kept D f g now safe nxt) : (D.b f).length = now.flatten.length + 9 * now.length + 26 := by
  obtain ⟨l, more, s, h1, rfl, -⟩ := h.cont
  rw [h1, List.length_append, fileOf_length, recs_length, List.flatten_append, List.length_append, List.length_append]; omega
theorem Kept.like {D D' : DS} {f : Int} {g : Nat} {now : List (List UInt8)} {safe : Nat} {nxt : Option (List (List UInt8))} (h : Kept D f g now safe nxt) (hb : D'.b = D.b) (hl : D'.l = D.l) : Kept D' f g now safe nxt :=
  ⟨h.file, h.gen, by rw [hb, hl]; exact h.cont, h.long, by rw [hb]; exact h.low⟩
/-- a log that goes on, on a disk that may fail -/
structure Live (D : DS) (W : WS) (now : List (List UInt8)) (safe : Nat) : Prop where
  kept : Kept D W.f W.gen now safe none
  off : D.off = false
  live : D.lives = W.lives
  done : W.done = false
  recs : W.recs = now
  size : W.bytes = (D.b W.f).length
theorem Live.over {D : DS} {W : WS} {now : List (List UInt8)} {safe : Nat} (h : Live D W now safe) : wOver D W = false := by unfold wOver; rw [h.done, h.live]; simp

theorem Live.app {D : DS} {W : WS} {now : List (List UInt8)} {safe : Nat} (h : Live D W now safe) (r : List UInt8) (hr : r.length ≤ 1048575) (hs : (D.b W.f).length + (r.length + 9) ≤ 4194304) :
    ((wApp D W r).2.2 = 0 ∧ Live (wApp D W r).1 (wApp D W r).2.1 (now ++ [r]) safe ∧ (wApp D W r).2.1.gen = W.gen ∨ (wApp D W r).2.2 = 6 ∧ (wApp D W r).1.off = true ∧ Kept (wApp D W r).1 W.f W.gen now safe none) ∧
      (wApp D W r).1.lives = D.lives ∧ (wApp D W r).1.steps ≤ D.steps + 1 := by
  have ha := app_two (ys := recR r) h.off h.kept.file (by rw [recR_length]; exact hs)
  unfold wApp
  rw [h.over, if_neg (by simp), if_neg (by omega)]
  by_cases a1 : D.armed = 0
  · rw [if_pos a1] at ha
    rw [ha, if_pos (by show (6 : Int) ≠ 0; decide)]
    exact ⟨.inr ⟨rfl, rfl, h.kept.like rfl rfl⟩, rfl, by show D.steps ≤ _; omega⟩
  · rw [if_neg a1] at ha
    rw [ha, if_neg (by simp)]
    have hb1 : (D.put W.f (D.b W.f ++ recR r) (D.l W.f)).step.b W.f = D.b W.f ++ recR r := puts_b _ _ _ _
    have hl1 : (D.put W.f (D.b W.f ++ recR r) (D.l W.f)).step.l W.f = D.l W.f := puts_l _ _ _ _
    have hb2 : (D.put W.f (D.b W.f ++ recR r) (D.l W.f)).step.b (otherF W.f) = D.b (otherF W.f) := puto_b D (otherF_ne _) _ _
    refine ⟨.inl ⟨rfl, ⟨⟨h.kept.file, h.kept.gen, ?_, ?_, ?_⟩, h.off, h.live, h.done, ?_, ?_⟩, rfl⟩, rfl, Nat.le_refl _⟩
    · obtain ⟨l, more, s, h1, h2, h3, h4, h5⟩ := h.kept.cont
      refine ⟨l, more ++ [r], s, ?_, by rw [h2, List.append_assoc], by rw [List.length_append]; omega, h4, ?_⟩
      · show (D.put W.f (D.b W.f ++ recR r) (D.l W.f)).step.b W.f = _
        rw [hb1, h1]; simp
      · show _ ≤ (D.put W.f (D.b W.f ++ recR r) (D.l W.f)).step.l W.f
        rw [hl1, List.take_append_of_le_length h3]; exact h5
    · rw [tooLong_app, h.kept.long]; simp [tooLong]; omega
    · rcases h.kept.low with hlow | ⟨L, hL, _⟩
      · left
        show ∀ k x, lookOf (((D.put W.f (D.b W.f ++ recR r) (D.l W.f)).step.b (otherF W.f)).take k) = some x → _
        rw [hb2]; exact hlow
      · cases hL
    · show W.recs ++ [r] = _; rw [h.recs]
    · show W.bytes + (r.length + 9) = ((D.put W.f (D.b W.f ++ recR r) (D.l W.f)).step.b W.f).length
      rw [hb1, List.length_append, recR_length, h.size]

theorem Live.sync {D : DS} {W : WS} {now : List (List UInt8)} {safe : Nat} (h : Live D W now safe) :
    ((wSync D W).2.2 = 0 ∧ Live (wSync D W).1 (wSync D W).2.1 now now.length ∧ (wSync D W).2.1.gen = W.gen ∨ (wSync D W).2.2 = 6 ∧ (wSync D W).1.off = true ∧ Kept (wSync D W).1 W.f W.gen now safe none) ∧
      (wSync D W).1.lives = D.lives ∧ (wSync D W).1.steps ≤ D.steps + 1 := by
  have ha : D.syncR W.f = _ := ask_two (D' := D.put W.f (D.b W.f) (D.b W.f).length) h.off h.kept.file
  unfold wSync
  rw [h.over, if_neg (by simp)]
  by_cases a1 : D.armed = 0
  · rw [if_pos a1] at ha
    rw [ha]
    exact ⟨.inr ⟨rfl, rfl, h.kept.like rfl rfl⟩, rfl, by show D.steps ≤ _; omega⟩
  · rw [if_neg a1] at ha
    rw [ha]
    have hb1 : ∀ g, (D.put W.f (D.b W.f) (D.b W.f).length).step.b g = D.b g := fun g => by
      show (if g = W.f then D.b W.f else D.b g) = _
      split
      · rename_i e; rw [e]
      · rfl
    have hl1 : (D.put W.f (D.b W.f) (D.b W.f).length).step.l W.f = (D.b W.f).length := puts_l _ _ _ _
    refine ⟨.inl ⟨rfl, ⟨⟨h.kept.file, h.kept.gen, ?_, h.kept.long, ?_⟩, h.off, h.live, by show (W.done || decide ((0 : Int) ≠ 0)) = false; rw [h.done]; rfl, h.recs, ?_⟩, rfl⟩, rfl, Nat.le_refl _⟩
    · obtain ⟨l, more, s, h1, h2, h3, h4, h5⟩ := h.kept.cont
      refine ⟨l, more, more.length, ?_, h2, Nat.le_refl _, by rw [h2, List.length_append], ?_⟩
      · show (D.put W.f (D.b W.f) (D.b W.f).length).step.b W.f = _
        rw [hb1]; exact h1
      · show _ ≤ (D.put W.f (D.b W.f) (D.b W.f).length).step.l W.f
        rw [hl1, List.take_length]
        show (fileOf W.gen l ++ (more.map recR).flatten).length ≤ _
        rw [h1]; exact Nat.le_refl _
    · rcases h.kept.low with hlow | ⟨L, hL, _⟩
      · left
        show ∀ k x, lookOf (((D.put W.f (D.b W.f) (D.b W.f).length).step.b (otherF W.f)).take k) = some x → _
        rw [hb1]; exact hlow
      · cases hL
    · show W.bytes = ((D.put W.f (D.b W.f) (D.b W.f).length).step.b W.f).length
      rw [hb1]; exact h.size

theorem look_nil : lookOf [] = none := by decide +kernel
theorem Live.rew {D : DS} {W : WS} {now : List (List UInt8)} {safe : Nat} (h : Live D W now safe) (L : List (List UInt8)) (hl : tooLong L = false) (hg : W.gen + 1 < 4611686018427387904) (hs : (fileOf (W.gen + 1) L).length ≤ 4194304) :
    ((wRew D W L).2.2 = 0 ∧ Live (wRew D W L).1 (wRew D W L).2.1 L L.length ∧ (wRew D W L).2.1.gen = W.gen + 1 ∨ (wRew D W L).2.2 = 6 ∧ (wRew D W L).1.off = true ∧ Kept (wRew D W L).1 W.f W.gen now safe (some L)) ∧
      (wRew D W L).1.lives = D.lives ∧ (wRew D W L).1.steps ≤ D.steps + 3 := by
  have hR := rew_out h.off h.over hl hg hs
  generalize wRew D W L = R at *
  refine ⟨?_, hR.lives, hR.steps⟩
  obtain ⟨l, more, s, h1, h2, h3, h4, h5⟩ := h.kept.cont
  rcases hR.cases_ with ⟨e1, e2, e3⟩ | ⟨e1, e2, e3, e4, e5⟩
  · refine .inr ⟨e1, e2, h.kept.file, h.kept.gen, ⟨l, more, s, by rw [hR.here.1]; exact h1, h2, h3, h4, by rw [hR.here.2]; exact h5⟩, h.kept.long, ?_⟩
    rcases e3 with ⟨e3, -⟩ | e3 | e3
    · rw [e3]
      rcases h.kept.low with hlow | ⟨L, hL, _⟩
      · exact .inl hlow
      · cases hL
    · rw [e3]; left; intro k x hx; rw [List.take_nil, look_nil] at hx; cases hx
    · exact .inr ⟨L, rfl, hl, e3⟩
  · left
    refine ⟨e1, ?_, by rw [e5]⟩
    rw [e5]
    refine ⟨⟨otherF_in _, by show 0 < W.gen + 1; omega, ⟨L, [], 0, by simpa using e3, by simp, by simp, by simp, by simpa using Nat.le_of_eq e4.symm⟩, hl, .inl ?_⟩, e2, by show R.1.lives = W.lives; rw [hR.lives, h.live], h.done, rfl, by show _ = (R.1.b (otherF W.f)).length; rw [e3]⟩
    intro k x hx
    simp only [otherF_twice h.kept.file] at hx
    rw [hR.here.1, h1] at hx
    have := look_pre (g := W.gen) (rest := ((l.map recR).flatten ++ (enc [69] ++ (more.map recR).flatten))) (by omega) (by
      have e : fileOf W.gen l ++ (more.map recR).flatten = enc (71 :: be 8 W.gen) ++ ((l.map recR).flatten ++ (enc [69] ++ (more.map recR).flatten)) := by simp [fileOf, body]
      rw [← e]; exact List.take_prefix _ _) hx
    left
    show x.1 < W.gen + 1
    omega

/-! ### behind a failure of the power -/
/-- a disk, all of which lasts, says these records -/
structure Says (D : DS) (R : List (List UInt8)) (f : Int) (g : Nat) (tail : List UInt8) : Prop where
  file : f = 0 ∨ f = 1
  gen : 0 < g
  cont : ∃ l more, D.b f = fileOf g l ++ (more.map recR).flatten ++ tail ∧ R = l ++ more
  tail : nextErr tail 0 ≠ 0
  long : tooLong R = false
  low : ∀ y, lookOf (D.b (otherF f)) = some y → y.1 < g ∨ (f = 0 ∧ y.1 = g)
  last : ∀ h, h = 0 ∨ h = 1 → D.l h = (D.b h).length
theorem Says.look {D : DS} {R : List (List UInt8)} {f : Int} {g : Nat} {tail : List UInt8} (h : Says D R f g tail) (hg : g < 4611686018427387904) : lookOf (D.b f) = some (g, R, decide (0 < tail.length)) := by
  obtain ⟨l, more, h1, h2⟩ := h.cont
  have hl := h.long
  rw [h2, tooLong_app] at hl
  simp at hl
  rw [h1, h2]
  exact look_file h.gen hg hl.1 hl.2 h.tail
theorem Says.pick {D : DS} {R : List (List UInt8)} {f : Int} {g : Nat} {tail : List UInt8} (h : Says D R f g tail) (hg : g < 4611686018427387904) : wPick D = (f, g, R, (D.b f).length, decide (0 < tail.length)) :=
  wPick_of h.file (h.look hg) h.low
theorem Says.flat {D : DS} {R : List (List UInt8)} {f : Int} {g : Nat} {tail : List UInt8} (h : Says D R f g tail) : R.flatten.length + 9 * R.length + 26 ≤ (D.b f).length := by
  obtain ⟨l, more, h1, rfl⟩ := h.cont
  have e1 := recs_length more
  have e2 := fileOf_length g l
  rw [h1, List.length_append, List.length_append, List.flatten_append, List.length_append, List.length_append]; omega
theorem power_b {D : DS} (zs : List Int) {h : Int} (hh : h = 0 ∨ h = 1) : (D.power zs).b h = (D.b h).take (newL D zs h) ∧ (D.power zs).l h = newL D zs h := by
  constructor
  · show (if decide (h = 0 ∨ h = 1) then _ else _) = _
    rw [decide_eq_true hh, if_pos rfl]
  · show (if decide (h = 0 ∨ h = 1) then _ else _) = _
    rw [decide_eq_true hh, if_pos rfl]
theorem power_last {D : DS} (hok : D.Ok) (zs : List Int) {h : Int} (hh : h = 0 ∨ h = 1) : (D.power zs).l h = ((D.power zs).b h).length := by
  rw [(power_b zs hh).1, (power_b zs hh).2, List.length_take]
  have := newL_le hok zs h
  omega
theorem power_all {D : DS} (zs : List Int) {h : Int} (hh : h = 0 ∨ h = 1) (hl : D.l h = (D.b h).length) : (D.power zs).b h = D.b h := by
  rw [(power_b zs hh).1]
  apply List.take_of_length_le
  unfold newL; omega

/-- the power fails: what is read -/
theorem Kept.power {D : DS} {f : Int} {g : Nat} {now : List (List UInt8)} {safe : Nat} {nxt : Option (List (List UInt8))} (h : Kept D f g now safe nxt) (hok : D.Ok) (hg : g + 1 < 4611686018427387904) (zs : List Int) :
    ∃ R f' g' tail, Says (D.power zs) R f' g' tail ∧ g' ≤ g + 1 ∧ ((∃ k, R = now.take k ∧ safe ≤ k ∧ k ≤ now.length) ∨ nxt = some R) := by
  obtain ⟨l, more, s, h1, h2, h3, h4, h5⟩ := h.cont
  have hlong := h.long
  rw [h2, tooLong_app] at hlong
  simp at hlong
  have hnl : D.l f ≤ newL D zs f := by unfold newL; omega
  obtain ⟨j, tail, j1, j2, j3, j4⟩ := cut_recs hlong.2 (newL D zs f - (fileOf g l).length)
  have hsj : s ≤ j := j4 s h3 (by rw [List.length_append] at h5; omega)
  have hb : (D.power zs).b f = fileOf g l ++ ((more.take j).map recR).flatten ++ tail := by
    rw [(power_b zs h.file).1, h1, List.take_append, List.take_of_length_le (by rw [List.length_append] at h5; omega), j2, List.append_assoc]
  have hR : l ++ more.take j = now.take (l.length + j) := by rw [h2, List.take_append, List.take_of_length_le (l := l) (by omega), Nat.add_sub_cancel_left]
  have hthis : ∀ (_ : ∀ y, lookOf ((D.power zs).b (otherF f)) = some y → y.1 < g ∨ (f = 0 ∧ y.1 = g)), ∃ R f' g' tail, Says (D.power zs) R f' g' tail ∧ g' ≤ g + 1 ∧ ((∃ k, R = now.take k ∧ safe ≤ k ∧ k ≤ now.length) ∨ nxt = some R) := fun hlow =>
    ⟨l ++ more.take j, f, g, tail, ⟨h.file, h.gen, ⟨l, more.take j, hb, rfl⟩, j3, by rw [hR]; exact long_take h.long _, hlow, fun k hk => power_last hok zs hk⟩, by omega, .inl ⟨l.length + j, hR, by omega, by rw [h2, List.length_append]; omega⟩⟩
  rcases h.low with hlow | ⟨L, hL, hLl, hLb⟩
  · exact hthis fun y hy => by rw [(power_b zs (otherF_in _)).1] at hy; exact hlow _ y hy
  · have hbo : (D.power zs).b (otherF f) = (fileOf (g + 1) L).take (newL D zs (otherF f)) := by rw [(power_b zs (otherF_in _)).1, hLb]
    rcases look_cut (g := g + 1) hLl (newL D zs (otherF f)) with e | e
    · rw [e] at hbo
      refine ⟨L, otherF f, g + 1, [], ⟨otherF_in _, by omega, ⟨L, [], by rw [hbo]; simp, by simp⟩, nextErr_nil, hLl, fun y hy => ?_, fun k hk => power_last hok zs hk⟩, Nat.le_refl _, .inr hL⟩
      rw [otherF_twice h.file, hb, look_file h.gen (by omega) hlong.1 (long_take hlong.2 _) j3] at hy
      injection hy with hy
      subst hy
      left; show g < g + 1; omega
    · rw [← hbo] at e
      exact hthis fun y hy => by rw [e] at hy; cases hy

/-- it is opened on a disk that may fail, and the power fails again -/
theorem Says.again {D : DS} {R : List (List UInt8)} {f : Int} {g : Nat} {tail : List UInt8} (h : Says D R f g tail) (ho : D.off = false) (hg : g + 1 < 4611686018427387904) (hok : D.Ok) (hok2 : (wOpen D).1.Ok) (zs : List Int) :
    ∃ f' g' tail', Says ((wOpen D).1.power zs) R f' g' tail' ∧ g' ≤ g + 1 := by
  have hp := h.pick (by omega)
  by_cases ht : 0 < tail.length
  · have hov : wOver D (wFirst D) = false := by unfold wOver wFirst; simp
    have hf : (wFirst D).f = f := by unfold wFirst; rw [hp]
    have hgn : (wFirst D).gen = g := by unfold wFirst; rw [hp]
    have hrc : (wFirst D).recs = R := by unfold wFirst; rw [hp]
    have hfl := h.flat
    have hsz := hok.size f
    have hR := rew_out (L := R) ho hov h.long (by rw [hgn]; exact hg) (by rw [hgn, fileOf_length]; omega)
    have hD : (wOpen D).1 = (wRew D (wFirst D) R).1 := by
      unfold wOpen
      rw [if_neg (by rw [ho]; simp), if_pos (by rw [hp]; exact decide_eq_true ht), hrc]
      split <;> rfl
    rw [hD] at hok2 ⊢
    generalize wRew D (wFirst D) R = Q at *
    obtain ⟨r1, r2, r3, r4⟩ := hR
    rw [hf] at r1 r4
    rw [hgn] at r4
    have hlf := h.last f h.file
    have hbf : (Q.1.power zs).b f = D.b f := by rw [power_all zs h.file (by rw [r1.1, r1.2]; exact hlf), r1.1]
    have hsame : ∀ (_ : ∀ y, lookOf ((Q.1.power zs).b (otherF f)) = some y → y.1 < g ∨ (f = 0 ∧ y.1 = g)), ∃ f' g' tail', Says (Q.1.power zs) R f' g' tail' ∧ g' ≤ g + 1 := fun hlow =>
      ⟨f, g, tail, ⟨h.file, h.gen, by rw [hbf]; exact h.cont, h.tail, h.long, hlow, fun k hk => power_last hok2 zs hk⟩, by omega⟩
    have hnew : Q.1.b (otherF f) = fileOf (g + 1) R → ∃ f' g' tail', Says (Q.1.power zs) R f' g' tail' ∧ g' ≤ g + 1 := fun hb => by
      have hbo : (Q.1.power zs).b (otherF f) = (fileOf (g + 1) R).take (newL Q.1 zs (otherF f)) := by rw [(power_b zs (otherF_in _)).1, hb]
      rcases look_cut (g := g + 1) h.long (newL Q.1 zs (otherF f)) with e | e
      · rw [e] at hbo
        refine ⟨otherF f, g + 1, [], ⟨otherF_in _, by omega, ⟨R, [], by rw [hbo]; simp, by simp⟩, nextErr_nil, h.long, fun y hy => ?_, fun k hk => power_last hok2 zs hk⟩, Nat.le_refl _⟩
        rw [otherF_twice h.file, hbf, h.look (by omega)] at hy
        injection hy with hy
        subst hy
        left; show g < g + 1; omega
      · rw [← hbo] at e
        exact hsame fun y hy => by rw [e] at hy; cases hy
    rcases r4 with ⟨-, -, e3⟩ | ⟨-, -, e3, -, -⟩
    · rcases e3 with ⟨e3, e4⟩ | e3 | e3
      · refine hsame fun y hy => ?_
        rw [power_all zs (otherF_in _) (by rw [e3, e4]; exact h.last _ (otherF_in _)), e3] at hy
        exact h.low y hy
      · refine hsame fun y hy => ?_
        rw [(power_b zs (otherF_in _)).1, e3, List.take_nil, look_nil] at hy; cases hy
      · exact hnew e3
    · exact hnew e3
  · have hD : (wOpen D).1 = D := by rw [wOpen_clean ho (by rw [hp]; exact decide_eq_false ht)]
    rw [hD] at hok2 ⊢
    have hb : ∀ k, k = 0 ∨ k = 1 → (D.power zs).b k = D.b k := fun k hk => power_all zs hk (h.last k hk)
    exact ⟨f, g, tail, ⟨h.file, h.gen, by rw [hb _ h.file]; exact h.cont, h.tail, h.long, by rw [hb _ (otherF_in _)]; exact h.low, fun k hk => power_last hok2 zs hk⟩, by omega⟩

/-- it is opened on a disk that goes well -/
theorem Says.opens {D : DS} {R : List (List UInt8)} {f : Int} {g : Nat} {tail : List UInt8} (h : Says D R f g tail) (ho : D.off = false) (ha : D.armed = -1) (hg : g + 1 < 4611686018427387904) (hok : D.Ok) :
    (wOpen D).2.1.isSome = true ∧ (wOpen D).2.2 = 0 ∧ (wFirst D).recs = R := by
  have hp := h.pick (by omega)
  have hf : (wFirst D).f = f := by unfold wFirst; rw [hp]
  have hgn : (wFirst D).gen = g := by unfold wFirst; rw [hp]
  have hrc : (wFirst D).recs = R := by unfold wFirst; rw [hp]
  by_cases ht : 0 < tail.length
  · obtain ⟨l, more, h1, -⟩ := h.cont
    have hfl := h.flat
    have hsz := hok.size f
    have hH : Half D (wFirst D) := ⟨ho, ha, rfl, rfl, by rw [hf]; exact h.file, by rw [hgn]; omega, ⟨(l.map recR).flatten ++ (enc [69] ++ ((more.map recR).flatten ++ tail)), by rw [hf, hgn, h1]; simp [fileOf, body]⟩⟩
    obtain ⟨D', hrew, -⟩ := hH.rew R h.long (by rw [hgn]; exact hg) (by rw [hgn, fileOf_length]; omega)
    rw [← hrc] at hrew
    rw [wOpen_rew ho (by rw [hp]; exact decide_eq_true ht) hrew rfl]
    exact ⟨rfl, rfl, hrc⟩
  · rw [wOpen_clean ho (by rw [hp]; exact decide_eq_false ht)]
    exact ⟨rfl, rfl, hrc⟩
end Go.Proofs.Ythcajaadbdiggaa
