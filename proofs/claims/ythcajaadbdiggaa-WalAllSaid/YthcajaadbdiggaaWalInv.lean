/- Plain facts on a log in any run: sizes, and its file's bytes. -/
import Derived.Test.YthcajaadbdiggaaWalEnd
namespace Go.Proofs.Ythcajaadbdiggaa
set_option maxRecDepth 1000000

theorem wopen_steps (D : DS) : (wOpen D).1.steps ≤ D.steps + 3 ∧ (wOpen D).1.lives = D.lives := by
  have hs : ∀ L, (wRew D (wFirst D) L).1.steps ≤ D.steps + 3 ∧ (wRew D (wFirst D) L).1.lives = D.lives := fun L => by
    unfold wRew
    split
    · simp
    split
    · simp
    split
    · simp
    have h1 := clearR_steps D (otherF (wFirst D).f)
    have k1 := clearR_lives D (otherF (wFirst D).f)
    simp only
    generalize D.clearR (otherF (wFirst D).f) = C at *
    split
    · simp only; omega
    have h2 := appR_steps C.1 (otherF (wFirst D).f) (fileOf ((wFirst D).gen + 1) L)
    have k2 := appR_lives C.1 (otherF (wFirst D).f) (fileOf ((wFirst D).gen + 1) L)
    generalize C.1.appR (otherF (wFirst D).f) (fileOf ((wFirst D).gen + 1) L) = A at *
    split
    · simp only; omega
    have h3 := syncR_steps A.1 (otherF (wFirst D).f)
    have k3 := syncR_lives A.1 (otherF (wFirst D).f)
    generalize A.1.syncR (otherF (wFirst D).f) = S at *
    split
    · simp only; omega
    · simp only; omega
  unfold wOpen
  split
  · simp
  split
  · split
    · exact hs _
    · exact hs _
  · simp

theorem askR_zero {D D' : DS} {f : Int} (h : (D.askR f D').2 = 0) : (D.askR f D').1 = D'.step ∧ mayE D f = 0 := by
  unfold DS.askR at h ⊢
  split at h
  · rename_i hm
    rw [if_pos hm]
    unfold DS.stepR at h ⊢
    split at h
    · simp at h
    · rename_i ha; rw [if_neg ha]; exact ⟨rfl, hm⟩
  · rename_i hm; exact absurd h hm
theorem appR_zero {D : DS} {f : Int} {ys : List UInt8} (h : (D.appR f ys).2 = 0) : (D.appR f ys).1 = (D.put f (D.b f ++ ys) (D.l f)).step ∧ mayE D f = 0 := by
  unfold DS.appR at h ⊢
  split at h
  · simp at h
  · rename_i hc; rw [if_neg hc]; exact askR_zero h
theorem mayE_zero {D : DS} {f : Int} (h : mayE D f = 0) : D.off = false ∧ (f = 0 ∨ f = 1) := by
  unfold mayE at h
  split at h
  · simp at h
  · rename_i ho
    split at h
    · rename_i hf; exact ⟨by simpa using ho, hf⟩
    · simp at h
theorem wrew_zero {D : DS} {W : WS} {l : List (List UInt8)} (h : (wRew D W l).2.2 = 0) :
    W.gen + 1 < 4611686018427387904 ∧ (wRew D W l).2.1 = { W with f := otherF W.f, gen := W.gen + 1, recs := l, bytes := (fileOf (W.gen + 1) l).length } ∧ (wRew D W l).1.b (otherF W.f) = fileOf (W.gen + 1) l := by
  unfold wRew at h ⊢
  split at h
  · simp at h
  rename_i h1
  split at h
  · simp at h
  rename_i h2
  split at h
  · simp at h
  rename_i h3
  rw [if_neg h1, if_neg h2, if_neg h3]
  simp only at h ⊢
  split at h
  · rename_i h4; exact absurd h h4
  rename_i h4
  have h4 : (D.clearR (otherF W.f)).2 = 0 := by simpa using h4
  split at h
  · rename_i h5; exact absurd h h5
  rename_i h5
  have h5 : ((D.clearR (otherF W.f)).1.appR (otherF W.f) (fileOf (W.gen + 1) l)).2 = 0 := by simpa using h5
  split at h
  · rename_i h6; exact absurd h h6
  rename_i h6
  have h6 : (((D.clearR (otherF W.f)).1.appR (otherF W.f) (fileOf (W.gen + 1) l)).1.syncR (otherF W.f)).2 = 0 := by simpa using h6
  rw [if_neg (by simpa using h4), if_neg (by simpa using h5), if_neg (by simpa using h6)]
  refine ⟨by omega, rfl, ?_⟩
  have e1 := (askR_zero h4).1
  have e2 := (appR_zero h5).1
  have e3 := (askR_zero h6).1
  show (((D.clearR (otherF W.f)).1.appR (otherF W.f) (fileOf (W.gen + 1) l)).1.syncR (otherF W.f)).1.b (otherF W.f) = _
  unfold DS.syncR
  rw [e3, puts_b, e2, puts_b]
  unfold DS.clearR
  rw [e1, puts_b, List.nil_append]
/-- what is kept of a log in any run -/
structure Inv1 (D : DS) (W : WS) (k : Nat) : Prop where
  gen : W.gen ≤ 4611686018427387904
  file : W.f = -1 ∨ W.f = 0 ∨ W.f = 1
  recs : W.recs.length ≤ 524288 + k
  bytes : W.bytes ≤ 4194304 + 400 * k
  same : wOver D W = false → D.off = false → (W.f = 0 ∨ W.f = 1) ∧ W.bytes = (D.b W.f).length
structure Inv5 (D : DS) (o : Option WS) (k : Nat) : Prop where
  steps : D.steps ≤ 10 + 4 * k
  lives : D.lives ≤ k
  log : ∀ W, o = some W → Inv1 D W k
theorem Inv1.more {D : DS} {W : WS} {k : Nat} (h : Inv1 D W k) : Inv1 D W (k + 1) := ⟨h.gen, h.file, by have := h.recs; omega, by have := h.bytes; omega, h.same⟩
theorem over_done (D : DS) (W : WS) : wOver D { W with done := true } = true := by unfold wOver; rfl
theorem Inv1.bad {D D' : DS} {W : WS} {k : Nat} (h : Inv1 D W k) : Inv1 D' { W with done := true } (k + 1) :=
  ⟨h.gen, h.file, by have := h.recs; show W.recs.length ≤ _; omega, by have := h.bytes; show W.bytes ≤ _; omega, fun h1 => by rw [over_done] at h1; cases h1⟩
theorem Inv1.app {D : DS} {W : WS} {k : Nat} (h : Inv1 D W k) {r : List UInt8} (hr : r.length ≤ 300) : Inv1 (wApp D W r).1 (wApp D W r).2.1 (k + 1) := by
  unfold wApp
  split
  · exact h.more
  rename_i h1
  split
  · exact h.more
  split
  · exact h.bad
  rename_i h3
  have h3 : (D.appR W.f (recR r)).2 = 0 := by simpa using h3
  obtain ⟨e1, e2⟩ := appR_zero h3
  obtain ⟨e3, e4⟩ := mayE_zero e2
  have hs := h.same (by simpa using h1) e3
  refine ⟨h.gen, h.file, by have := h.recs; show (W.recs ++ [r]).length ≤ _; simp; omega, by have := h.bytes; show W.bytes + (r.length + 9) ≤ _; omega, fun _ _ => ⟨e4, ?_⟩⟩
  show W.bytes + (r.length + 9) = ((D.appR W.f (recR r)).1.b W.f).length
  rw [e1, puts_b, List.length_append, recR_length, hs.2]
theorem Inv1.sync {D : DS} {W : WS} {k : Nat} (h : Inv1 D W k) : Inv1 (wSync D W).1 (wSync D W).2.1 (k + 1) := by
  unfold wSync
  split
  · exact h.more
  rename_i h1
  by_cases hE : (D.syncR W.f).2 = 0
  · obtain ⟨e1, e2⟩ := askR_zero hE
    obtain ⟨e3, e4⟩ := mayE_zero e2
    have hs := h.same (by simpa using h1) e3
    have hW : W.fails (D.syncR W.f).2 = W := by rw [hE]; simp [WS.fails]
    show Inv1 (D.syncR W.f).1 (W.fails (D.syncR W.f).2) (k + 1)
    rw [hW]
    refine ⟨h.gen, h.file, by have := h.recs; omega, by have := h.bytes; omega, fun _ _ => ⟨e4, ?_⟩⟩
    unfold DS.syncR
    rw [e1, puts_b, hs.2]
  · have hW : W.fails (D.syncR W.f).2 = { W with done := true } := by simp [WS.fails, hE]
    show Inv1 (D.syncR W.f).1 (W.fails (D.syncR W.f).2) (k + 1)
    rw [hW]
    exact h.bad
theorem wrew_bad {D : DS} {W : WS} {l : List (List UInt8)} (h : (wRew D W l).2.2 ≠ 0) : ((wRew D W l).1 = D ∧ (wRew D W l).2.1 = W) ∨ (wRew D W l).2.1 = { W with done := true } := by
  unfold wRew at h ⊢
  split
  · exact .inl ⟨rfl, rfl⟩
  rename_i h1
  split
  · exact .inl ⟨rfl, rfl⟩
  rename_i h2
  split
  · exact .inl ⟨rfl, rfl⟩
  rename_i h3
  rw [if_neg h1, if_neg h2, if_neg h3] at h
  simp only at h ⊢
  split
  · exact .inr rfl
  rename_i h4
  rw [if_neg h4] at h
  split
  · exact .inr rfl
  rename_i h5
  rw [if_neg h5] at h
  split
  · exact .inr rfl
  rename_i h6
  rw [if_neg h6] at h
  exact absurd rfl h
theorem Inv1.rew {D : DS} {W : WS} {k : Nat} (h : Inv1 D W k) {l : List (List UInt8)} (hl : l.length ≤ 524288) (hok : (wRew D W l).1.Ok) : Inv1 (wRew D W l).1 (wRew D W l).2.1 (k + 1) := by
  by_cases hE : (wRew D W l).2.2 = 0
  · obtain ⟨e1, e2, e3⟩ := wrew_zero hE
    have hsz := hok.size (otherF W.f)
    rw [e3] at hsz
    rw [e2]
    refine ⟨by show W.gen + 1 ≤ _; omega, .inr (otherF_in _), by show l.length ≤ _; omega, by show (fileOf (W.gen + 1) l).length ≤ _; omega, fun _ _ => ⟨otherF_in _, ?_⟩⟩
    show (fileOf (W.gen + 1) l).length = ((wRew D W l).1.b (otherF W.f)).length
    rw [e3]
  · rcases wrew_bad hE with ⟨e1, e2⟩ | e2
    · rw [e1, e2]; exact h.more
    · rw [e2]; exact h.bad
theorem pick_file5 {D : DS} (h : (wPick D).2.2.2.2 = false) : ((wPick D).1 = 0 ∨ (wPick D).1 = 1) ∧ (wPick D).2.2.2.1 = (D.b (wPick D).1).length := by
  unfold wPick at h ⊢
  split at h
  · simp at h
  · exact ⟨.inl rfl, rfl⟩
  · exact ⟨.inr rfl, rfl⟩
  · split
    · exact ⟨.inr rfl, rfl⟩
    · exact ⟨.inl rfl, rfl⟩
theorem Inv1.opened {D : DS} (hok : D.Ok) (hok2 : (wOpen D).1.Ok) {W : WS} (hW : (wOpen D).2.1 = some W) (k : Nat) : Inv1 (wOpen D).1 W (k + 1) := by
  obtain ⟨b1, b2, b3, b4, b5⟩ := wFirst_bound hok
  have h0 : Inv1 D (wFirst D) k ∨ (wPick D).2.2.2.2 = true := by
    cases hs : (wPick D).2.2.2.2
    · left
      obtain ⟨p1, p2⟩ := pick_file5 hs
      exact ⟨b3, b5, by omega, by omega, fun _ _ => ⟨p1, p2⟩⟩
    · exact .inr rfl
  unfold wOpen at hW hok2 ⊢
  split at hW
  · cases hW
  rename_i h1
  rw [if_neg h1] at hok2 ⊢
  split at hW
  · rename_i h2
    rw [if_pos h2] at hok2 ⊢
    split at hW
    · cases hW
    rename_i h3
    rw [if_neg h3] at hok2 ⊢
    injection hW with hW
    have hE : (wRew D (wFirst D) (wFirst D).recs).2.2 = 0 := by simpa using h3
    obtain ⟨e1, e2, e3⟩ := wrew_zero hE
    have hsz := hok2.size (otherF (wFirst D).f)
    simp only at hsz
    rw [e3] at hsz
    rw [e2] at hW
    subst hW
    refine ⟨by show (wFirst D).gen + 1 ≤ _; omega, .inr (otherF_in _), by show (wFirst D).recs.length ≤ _; omega, by show (fileOf ((wFirst D).gen + 1) (wFirst D).recs).length ≤ _; omega, fun _ _ => ⟨otherF_in _, ?_⟩⟩
    show (fileOf ((wFirst D).gen + 1) (wFirst D).recs).length = ((wRew D (wFirst D) (wFirst D).recs).1.b (otherF (wFirst D).f)).length
    rw [e3]
  · rename_i h2
    rw [if_neg h2]
    injection hW with hW
    subst hW
    rcases h0 with h0 | h0
    · exact h0.more
    · exact absurd h0 h2
theorem Inv5.opened {D : DS} (hok : D.Ok) (hok2 : (wOpen D).1.Ok) {k : Nat} (h1 : D.steps ≤ 11 + 4 * k) (h2 : D.lives ≤ k + 1) : Inv5 (wOpen D).1 (wOpen D).2.1 (k + 1) := by
  have hs := wopen_steps D
  exact ⟨by omega, by omega, fun W hW => Inv1.opened hok hok2 hW k⟩
theorem wapp_steps (D : DS) (W : WS) (r : List UInt8) : (wApp D W r).1.steps ≤ D.steps + 1 ∧ (wApp D W r).1.lives = D.lives := by
  have h1 := appR_steps D W.f (recR r)
  have h2 := appR_lives D W.f (recR r)
  unfold wApp
  split
  · simp
  split
  · simp
  split
  · exact ⟨h1, h2⟩
  · exact ⟨h1, h2⟩
theorem wsync_steps (D : DS) (W : WS) : (wSync D W).1.steps ≤ D.steps + 1 ∧ (wSync D W).1.lives = D.lives := by
  have h1 := syncR_steps D W.f
  have h2 := syncR_lives D W.f
  unfold wSync
  split
  · simp
  · exact ⟨h1, h2⟩
theorem wrew_steps (D : DS) (W : WS) (L : List (List UInt8)) : (wRew D W L).1.steps ≤ D.steps + 3 ∧ (wRew D W L).1.lives = D.lives := by
  unfold wRew
  split
  · simp
  split
  · simp
  split
  · simp
  have h1 := clearR_steps D (otherF W.f)
  have k1 := clearR_lives D (otherF W.f)
  simp only
  generalize D.clearR (otherF W.f) = C at *
  split
  · simp only; omega
  have h2 := appR_steps C.1 (otherF W.f) (fileOf (W.gen + 1) L)
  have k2 := appR_lives C.1 (otherF W.f) (fileOf (W.gen + 1) L)
  generalize C.1.appR (otherF W.f) (fileOf (W.gen + 1) L) = A at *
  split
  · simp only; omega
  have h3 := syncR_steps A.1 (otherF W.f)
  have k3 := syncR_lives A.1 (otherF W.f)
  generalize A.1.syncR (otherF W.f) = S at *
  split
  · simp only; omega
  · simp only; omega
theorem Inv5.arm {D : DS} {o : Option WS} {k : Nat} (h : Inv5 D o k) (a : Int) : Inv5 { D with armed := a } o (k + 1) :=
  ⟨by have := h.steps; show D.steps ≤ _; omega, by have := h.lives; show D.lives ≤ _; omega, fun W hW => by
    have h1 := h.log W hW
    exact ⟨h1.gen, h1.file, by have := h1.recs; omega, by have := h1.bytes; omega, h1.same⟩⟩
end Go.Proofs.Ythcajaadbdiggaa
