/- Plain facts on a log that goes on: its disk is well, its file is whole. -/
import Derived.Test.YthcajaadbdiggaaWalLaws
namespace Go.Proofs.Ythcajaadbdiggaa
set_option maxRecDepth 1000000

theorem enc_drop (r : List UInt8) : (enc r).drop 8 = r := by
  have h4 := be_length 4 r.length
  have h5 := be_length 4 (CRC.crc 0 (nat8 (be 4 r.length ++ r)))
  unfold enc
  rw [← List.append_assoc, List.drop_append_of_le_length (by rw [List.length_append]; omega), List.drop_eq_nil_of_le (by rw [List.length_append]; omega), List.nil_append]
/-- a beginning of a file has its generation, or none -/
theorem look_pre {g : Nat} {rest ys : List UInt8} (hg : g < 18446744073709551616) (hp : ys <+: enc (71 :: be 8 g) ++ rest) {x : Nat × List (List UInt8) × Bool} (h : lookOf ys = some x) : x.1 = g := by
  obtain ⟨henc, _⟩ := (scan_reach ys).1.enc
  unfold lookOf at h
  generalize (scanOf ys).1 = ls at *
  cases ls with
  | nil => cases h
  | cons r0 rs =>
    simp only [lookL] at h
    split at h
    · rename_i hc
      split at h
      · injection h with h
        subst h
        have h1 : enc r0 ++ (rs.map enc).flatten <+: enc (71 :: be 8 g) ++ rest := by
          have : (r0 :: rs).map enc = enc r0 :: rs.map enc := rfl
          rw [this, List.flatten_cons] at henc
          rw [← henc]
          exact (List.take_prefix _ _).trans hp
        have h2 : enc r0 = enc (71 :: be 8 g) := by
          have e1 : enc r0 <+: enc (71 :: be 8 g) ++ rest := (List.prefix_append _ _).trans h1
          have e2 : enc (71 :: be 8 g) <+: enc (71 :: be 8 g) ++ rest := List.prefix_append _ _
          have e3 : (enc r0).length = (enc (71 :: be 8 g)).length := by rw [enc_length, enc_length, hc.1]; simp [be_length]
          exact (List.prefix_of_prefix_length_le e1 e2 (Nat.le_of_eq e3)).eq_of_length e3
        have h3 : r0 = 71 :: be 8 g := by rw [← enc_drop r0, h2, enc_drop]
        subst h3
        exact gen_rd hg
      · cases h
    · cases h

/-! ### a disk that is well -/
theorem ask_good {D D' : DS} {f : Int} (ho : D.off = false) (ha : D.armed = -1) (ha' : D'.armed = -1) (hf : f = 0 ∨ f = 1) : D.askR f D' = ({ D' with steps := D'.steps + 1 }, 0) := by
  have hm : mayE D f = 0 := by unfold mayE; rw [ho, if_neg (by simp), if_pos hf]
  unfold DS.askR DS.stepR
  rw [if_pos hm, if_neg (by rw [ha]; decide), DS.step_neg (by rw [ha']; decide)]
theorem app_good {D : DS} {f : Int} {ys : List UInt8} (ho : D.off = false) (ha : D.armed = -1) (hf : f = 0 ∨ f = 1) (hs : (D.b f).length + ys.length ≤ 4194304) :
    D.appR f ys = ({ D.put f (D.b f ++ ys) (D.l f) with steps := D.steps + 1 }, 0) := by
  unfold DS.appR
  rw [if_neg (by omega), ask_good ho ha (by exact ha) hf]; rfl
theorem sync_good {D : DS} {f : Int} (ho : D.off = false) (ha : D.armed = -1) (hf : f = 0 ∨ f = 1) : D.syncR f = ({ D.put f (D.b f) (D.b f).length with steps := D.steps + 1 }, 0) := by
  unfold DS.syncR
  rw [ask_good ho ha (by exact ha) hf]; rfl
theorem clear_good {D : DS} {f : Int} (ho : D.off = false) (ha : D.armed = -1) (hf : f = 0 ∨ f = 1) : D.clearR f = ({ D.put f [] 0 with steps := D.steps + 1 }, 0) := by
  unfold DS.clearR
  rw [ask_good ho ha (by exact ha) hf]; rfl

theorem otherF_ne (f : Int) : otherF f ≠ f := by unfold otherF; split <;> omega
theorem otherF_in (f : Int) : otherF f = 0 ∨ otherF f = 1 := by unfold otherF; split <;> simp
theorem otherF_twice {f : Int} (h : f = 0 ∨ f = 1) : otherF (otherF f) = f := by rcases h with rfl | rfl <;> decide
theorem tooLong_app (a b : List (List UInt8)) : tooLong (a ++ b) = (tooLong a || tooLong b) := by simp [tooLong]

/-- a log goes well -/
structure Good (D : DS) (W : WS) : Prop where
  off : D.off = false
  arm : D.armed = -1
  live : D.lives = W.lives
  done : W.done = false
  file : W.f = 0 ∨ W.f = 1
  gen0 : 0 < W.gen
  gen1 : W.gen < 4611686018427387904
  cont : ∃ l more, D.b W.f = fileOf W.gen l ++ (more.map recR).flatten ∧ W.recs = l ++ more
  long : tooLong W.recs = false
  size : W.bytes = (D.b W.f).length
  low : ∀ k x, lookOf ((D.b (otherF W.f)).take k) = some x → x.1 < W.gen ∨ (W.f = 0 ∧ x.1 = W.gen)
/-- a log can be rewritten well -/
structure Half (D : DS) (W : WS) : Prop where
  off : D.off = false
  arm : D.armed = -1
  live : D.lives = W.lives
  done : W.done = false
  file : W.f = 0 ∨ W.f = 1
  gen1 : W.gen < 4611686018427387904
  pre : ∃ rest, D.b W.f = enc (71 :: be 8 W.gen) ++ rest
theorem Good.half {D : DS} {W : WS} (h : Good D W) : Half D W := by
  obtain ⟨l0, more, e1, _⟩ := h.cont
  refine ⟨h.off, h.arm, h.live, h.done, h.file, h.gen1, ((l0.map recR).flatten ++ (enc [69] ++ (more.map recR).flatten)), ?_⟩
  rw [e1]; simp [fileOf, body]
theorem Half.over {D : DS} {W : WS} (h : Half D W) : wOver D W = false := by unfold wOver; rw [h.done, h.live]; simp
theorem Good.over {D : DS} {W : WS} (h : Good D W) : wOver D W = false := h.half.over

theorem Good.app {D : DS} {W : WS} (h : Good D W) (r : List UInt8) (hr : r.length ≤ 1048575) (hs : (D.b W.f).length + (r.length + 9) ≤ 4194304) :
    ∃ D', wApp D W r = (D', { W with recs := W.recs ++ [r], bytes := W.bytes + (r.length + 9) }, 0) ∧ Good D' { W with recs := W.recs ++ [r], bytes := W.bytes + (r.length + 9) } ∧ D'.steps = D.steps + 1 ∧ D'.lives = D.lives := by
  have ha := app_good (ys := recR r) h.off h.arm h.file (by rw [recR_length]; exact hs)
  refine ⟨{ D.put W.f (D.b W.f ++ recR r) (D.l W.f) with steps := D.steps + 1 }, ?_, ?_, rfl, rfl⟩
  · unfold wApp
    rw [h.over, if_neg (by simp), if_neg (by omega), ha, if_neg (by simp)]
  · obtain ⟨l, more, h1, h2⟩ := h.cont
    refine ⟨h.off, h.arm, h.live, h.done, h.file, h.gen0, h.gen1, ⟨l, more ++ [r], ?_, by rw [h2, List.append_assoc]⟩, ?_, ?_, ?_⟩
    · show (if W.f = W.f then D.b W.f ++ recR r else D.b W.f) = _
      rw [if_pos rfl, h1]; simp
    · show tooLong (W.recs ++ [r]) = false
      rw [tooLong_app, h.long]; simp [tooLong]; omega
    · show _ = (if W.f = W.f then D.b W.f ++ recR r else D.b W.f).length
      rw [if_pos rfl, List.length_append, recR_length, h.size]
    · show ∀ k x, lookOf ((if otherF W.f = W.f then D.b W.f ++ recR r else D.b (otherF W.f)).take k) = some x → _
      rw [if_neg (otherF_ne _)]; exact h.low

theorem Half.rew {D : DS} {W : WS} (h : Half D W) (l : List (List UInt8)) (hl : tooLong l = false) (hg : W.gen + 1 < 4611686018427387904) (hs : (fileOf (W.gen + 1) l).length ≤ 4194304) :
    ∃ D', wRew D W l = (D', { W with f := otherF W.f, gen := W.gen + 1, recs := l, bytes := (fileOf (W.gen + 1) l).length }, 0) ∧
      Good D' { W with f := otherF W.f, gen := W.gen + 1, recs := l, bytes := (fileOf (W.gen + 1) l).length } ∧ D'.steps = D.steps + 3 ∧ D'.lives = D.lives ∧ D'.b (otherF W.f) = fileOf (W.gen + 1) l ∧ D'.l (otherF W.f) = (fileOf (W.gen + 1) l).length := by
  have ho := otherF_in W.f
  have h1 := clear_good h.off h.arm ho
  obtain ⟨C, hC⟩ : ∃ C : DS, C = { D.put (otherF W.f) [] 0 with steps := D.steps + 1 } := ⟨_, rfl⟩
  rw [← hC] at h1
  have hCb : C.b (otherF W.f) = [] := by rw [hC]; show (if otherF W.f = otherF W.f then _ else _) = _; rw [if_pos rfl]
  have hCo : C.off = false := by rw [hC]; exact h.off
  have hCa : C.armed = -1 := by rw [hC]; exact h.arm
  have h2 := app_good (ys := fileOf (W.gen + 1) l) hCo hCa ho (by rw [hCb]; simpa using hs)
  rw [hCb, List.nil_append] at h2
  obtain ⟨A, hA⟩ : ∃ A : DS, A = { C.put (otherF W.f) (fileOf (W.gen + 1) l) (C.l (otherF W.f)) with steps := C.steps + 1 } := ⟨_, rfl⟩
  rw [← hA] at h2
  have hAb : A.b (otherF W.f) = fileOf (W.gen + 1) l := by rw [hA]; show (if otherF W.f = otherF W.f then _ else _) = _; rw [if_pos rfl]
  have h3 := sync_good (D := A) (by rw [hA]; exact hCo) (by rw [hA]; exact hCa) ho
  rw [hAb] at h3
  obtain ⟨S, hS⟩ : ∃ S : DS, S = { A.put (otherF W.f) (fileOf (W.gen + 1) l) (fileOf (W.gen + 1) l).length with steps := A.steps + 1 } := ⟨_, rfl⟩
  rw [← hS] at h3
  have hSb : S.b (otherF W.f) = fileOf (W.gen + 1) l := by rw [hS]; show (if otherF W.f = otherF W.f then _ else _) = _; rw [if_pos rfl]
  have hSf : S.b W.f = D.b W.f := by
    have hne : ¬ W.f = otherF W.f := fun e => otherF_ne _ e.symm
    rw [hS]; show (if W.f = otherF W.f then _ else A.b W.f) = _
    rw [if_neg hne, hA]; show (if W.f = otherF W.f then _ else C.b W.f) = _
    rw [if_neg hne, hC]; show (if W.f = otherF W.f then _ else D.b W.f) = _
    rw [if_neg hne]
  refine ⟨S, ?_, ?_, by rw [hS, hA, hC], by rw [hS, hA, hC]; rfl, hSb, by rw [hS]; show (if otherF W.f = otherF W.f then _ else _) = _; rw [if_pos rfl]⟩
  · unfold wRew
    simp only [h1, h2, h3]
    rw [h.over, hl, if_neg (by simp), if_neg (by simp), if_neg (by omega)]
    rfl
  · obtain ⟨rest, e1⟩ := h.pre
    refine ⟨by rw [hS, hA, hC]; exact h.off, by rw [hS, hA, hC]; exact h.arm, by rw [hS, hA, hC]; exact h.live, h.done, ho, by simp, hg, ⟨l, [], by simpa using hSb, by simp⟩, hl, by rw [hSb], ?_⟩
    intro k x hx
    simp only [otherF_twice h.file] at hx
    rw [hSf, e1] at hx
    have := look_pre (by have := h.gen1; omega) (List.take_prefix _ _) hx
    left
    show x.1 < W.gen + 1
    omega

theorem Good.sync {D : DS} {W : WS} (h : Good D W) : ∃ D', wSync D W = (D', W, 0) ∧ Good D' W ∧ D'.steps = D.steps + 1 ∧ D'.lives = D.lives ∧ D'.l W.f = (D'.b W.f).length := by
  have h1 := sync_good h.off h.arm h.file
  have hb : ∀ g, ({ D.put W.f (D.b W.f) (D.b W.f).length with steps := D.steps + 1 } : DS).b g = D.b g := fun g => by
    show (if g = W.f then D.b W.f else D.b g) = _
    split
    · rename_i e; rw [e]
    · rfl
  refine ⟨{ D.put W.f (D.b W.f) (D.b W.f).length with steps := D.steps + 1 }, ?_, ?_, rfl, rfl, ?_⟩
  · unfold wSync
    rw [h.over, if_neg (by simp), h1]
    simp [WS.fails]
  · exact ⟨h.off, h.arm, h.live, h.done, h.file, h.gen0, h.gen1, by rw [hb]; exact h.cont, h.long, by rw [hb]; exact h.size, by rw [hb]; exact h.low⟩
  · rw [hb]; show (if W.f = W.f then _ else _) = _; rw [if_pos rfl]

theorem wPick_of {D : DS} {f : Int} (hf : f = 0 ∨ f = 1) {x : Nat × List (List UInt8) × Bool} (h : lookOf (D.b f) = some x) (hlow : ∀ y, lookOf (D.b (otherF f)) = some y → y.1 < x.1 ∨ (f = 0 ∧ y.1 = x.1)) : wPick D = (f, x.1, x.2.1, (D.b f).length, x.2.2) := by
  unfold wPick
  rcases hf with rfl | rfl
  · rw [show otherF 0 = 1 from rfl] at hlow
    rw [h]
    cases hy : lookOf (D.b 1) with
    | none => rfl
    | some y => have := hlow y hy; simp only; rw [if_neg (by omega)]
  · rw [show otherF 1 = 0 from rfl] at hlow
    rw [h]
    cases hy : lookOf (D.b 0) with
    | none => rfl
    | some y => have := hlow y hy; simp only; rw [if_pos (by omega)]
/-- the power fails, all of the log being synced, and it is opened anew -/
theorem Good.power {D : DS} {W : WS} (h : Good D W) (hl : D.l W.f = (D.b W.f).length) (zs : List Int) :
    wOpen (D.power zs) = (D.power zs, some { W with lives := W.lives + 1 }, 0) ∧ wFirst (D.power zs) = { W with lives := W.lives + 1 } ∧ Good (D.power zs) { W with lives := W.lives + 1 } ∧ (D.power zs).lives = D.lives + 1 ∧ (D.power zs).steps = D.steps := by
  have hb : ∀ g, g = 0 ∨ g = 1 → (D.power zs).b g = (D.b g).take (newL D zs g) := fun g hg => by
    show (if decide (g = 0 ∨ g = 1) then _ else _) = _
    rw [decide_eq_true hg, if_pos rfl]
  have hbf : (D.power zs).b W.f = D.b W.f := by
    rw [hb _ h.file]; apply List.take_of_length_le; unfold newL; omega
  obtain ⟨l, more, e1, e2⟩ := h.cont
  have hlook := look_file (g := W.gen) (l := l) (more := more) (tail := []) h.gen0 h.gen1 (by have := h.long; rw [e2, tooLong_app] at this; simp at this; exact this.1) (by have := h.long; rw [e2, tooLong_app] at this; simp at this; exact this.2) nextErr_nil
  rw [List.append_nil, ← e1, ← e2, ← hbf] at hlook
  have hp := wPick_of h.file hlook (fun y hy => by rw [hb _ (otherF_in _)] at hy; exact h.low _ y hy)
  have hw : wFirst (D.power zs) = { W with lives := W.lives + 1 } := by
    unfold wFirst
    rw [hp]
    simp only [hbf, ← h.size]
    show ({ f := W.f, gen := W.gen, recs := W.recs, bytes := W.bytes, lives := D.lives + 1, done := false } : WS) = _
    rw [h.live, ← h.done]
  refine ⟨?_, hw, ⟨rfl, rfl, by show D.lives + 1 = W.lives + 1; rw [h.live], h.done, h.file, h.gen0, h.gen1, by rw [hbf]; exact h.cont, h.long, by rw [hbf]; exact h.size, ?_⟩, rfl, rfl⟩
  · rw [wOpen_clean rfl (by rw [hp]; rfl), hw]
  · intro k x hx
    simp only at hx
    rw [hb _ (otherF_in _), List.take_take] at hx
    exact h.low _ x hx

/-! ### the first log -/
theorem bw1_is : bw1.f = 0 ∧ bw1.gen = 1 ∧ bw1.recs = [] ∧ bw1.bytes = 26 ∧ bw1.lives = 0 ∧ bw1.done = false := by decide +kernel
theorem bo1_is : bo1.1.b 0 = fileOf 1 [] ∧ bo1.1.b 1 = [] ∧ bo1.1.off = false ∧ bo1.1.armed = -1 ∧ bo1.1.lives = 0 ∧ bo1.1.steps = 3 := by decide +kernel
theorem good_first : Good bo1.1 bw1 := by
  obtain ⟨a1, a2, a3, a4, a5, a6⟩ := bw1_is
  obtain ⟨b1, b2, b3, b4, b5, b6⟩ := bo1_is
  refine ⟨b3, b4, by rw [b5, a5], a6, .inl a1, by rw [a2]; decide, by rw [a2]; decide, ⟨[], [], by rw [a1, a2, b1]; simp, by rw [a3]; rfl⟩, by rw [a3]; rfl, by rw [a1, a4, b1]; decide, ?_⟩
  intro k x hx
  rw [a1, show otherF 0 = 1 from rfl, b2, List.take_nil] at hx
  rw [show lookOf [] = none from by decide +kernel] at hx
  cases hx
end Go.Proofs.Ythcajaadbdiggaa
