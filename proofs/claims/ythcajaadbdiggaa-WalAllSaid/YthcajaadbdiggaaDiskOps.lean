/- Contracts of the operations of a disk. -/
import Derived.Test.YthcajaadbdiggaaDiskStep
import Derived.Test.YthcajaadbdiggaaAppFull
namespace Go.Proofs.Ythcajaadbdiggaa
set_option maxRecDepth 10000
open Go.RowKit
open Go.ChangeMaps (setBlock heap_setBlock_same heap_setBlock_other)
variable {X : Nat → Prop}

theorem field_b (A : Option Addr) (n c l : Nat) (W : World) : (Instr.field 69 (.agg #[.slice A n c, .int .i64 (l : Int)]) 0).run Try.prog W = .ok (.slice A n c) W := by
  have h := run_underlying (w := W) (P := Try.prog) Try.underlying69
  simp [Instr.field, h, part, asAgg, Result.andThen]
theorem pick_file {w : World} {d b : Nat} {sw : Bool} {V : Int → Value} {D : DS} (h : DiskAt X w d b sw V D) {f : Int} (hf : f = 0 ∨ f = 1) :
    ∃ A c, pickV (V 0) (V 1) (fileV none 0 0 0) f = fileV A (D.b f).length c (D.l f) ∧ (D.b f).length ≤ c ∧ Rd w A (D.b f).length (ub (D.b f)) ∧ ∀ ad, A = some ad → ad.block ≠ d ∧ ad.block ≠ b ∧ ad.block < w.heap.size ∧ X ad.block := by
  rcases hf with rfl | rfl
  · obtain ⟨A, c, h1, h2⟩ := h.file 0 (.inl rfl); exact ⟨A, c, h1, h2⟩
  · obtain ⟨A, c, h1, h2⟩ := h.file 1 (.inr rfl); exact ⟨A, c, h1, h2⟩

/-- what an operation that asks one file and is a step answers -/
def opPost (X : Nat → Prop) (w : World) (d b : Nat) (sw : Bool) (D : DS) (f : Int) (D' : DS) (e : Ending) (w' : World) : Prop :=
  (∃ V', (mayE D f ≠ 0 ∧ e = .returned (.int .i64 (mayE D f)) ∧ DiskAt X w' d b sw V' D) ∨
    (mayE D f = 0 ∧ D.armed = 0 ∧ e = .returned (.int .i64 6) ∧ DiskAt X w' d b sw V' { D with off := true }) ∨
    (mayE D f = 0 ∧ D.armed ≠ 0 ∧ e = .returned (.int .i64 0) ∧ DiskAt X w' d b sw V' D'.step)) ∧ OnlyD d b w w'
theorem mayE_in {D : DS} {f : Int} (h : mayE D f = 0) : f = 0 ∨ f = 1 := by
  unfold mayE at h
  split at h
  · cases h
  · split at h
    · assumption
    · cases h
theorem opPost_of {w w1 : World} {d b : Nat} {sw : Bool} {D : DS} {f : Int} {D' : DS} {e : Ending} {w' : World} (hm : mayE D f = 0) (ho : OnlyD d b w w1) (h : stepPost X w1 d b sw D D' e w') : opPost X w d b sw D f D' e w' := by
  obtain ⟨⟨V', h1⟩, h2⟩ := h
  exact ⟨⟨V', .inr (h1.imp (fun h => ⟨hm, h.1, h.2.1, h.2.2⟩) (fun h => ⟨hm, h.1, h.2.1, h.2.2⟩))⟩, ho.trans h2⟩

set_option maxHeartbeats 1000000 in
theorem clear_calls (d b : Nat) (sw : Bool) (V : Int → Value) (D : DS) (f : Int) (w : World) (h : DiskAt X w d b sw V D) (hs : D.steps < 1099511627776) :
    Calls Try.prog 58 #[.pointer (some ⟨d, 0, none⟩), .int .i64 f] w fun e w' => opPost X w d b sw D f (D.put f [] 0) e w' := by
  have hmay := may_calls d b sw V D f w h
  by_cases hm : mayE D f = 0
  · have hf := mayE_in hm
    rw [hm] at hmay
    go_enter Try.func58, Try.ntmps58
    go_wp2_with fail
    refine hmay.mono ?_
    rintro e w1 ⟨rfl, hb1⟩
    go_wp2_with fail
    refine (step_calls d b sw V D f hf none 0 0 0 [] _ (h.move hb1) (Rd.none_ _ _) (by decide) (fun ad e => by cases e) (by decide) (by decide) hs).mono ?_
    rintro e w2 hp
    have hq := Lib.hid (opPost_of (f := f) hm (OnlyD.of_below hb1) hp)
    obtain ⟨⟨V', hp⟩, _⟩ := hp
    rcases hp with ⟨_, rfl, _⟩ | ⟨_, rfl, _⟩
    · go_wp2_with fail
      go_ret
      exact hq.out
    · go_wp2_with fail
      go_ret
      exact hq.out
  · have hq : ∀ w', Below w.heap.size w w' → opPost X w d b sw D f (D.put f [] 0) (.returned (.int .i64 (mayE D f))) w' := fun w' hb => ⟨⟨V, .inl ⟨hm, rfl, h.move hb⟩⟩, OnlyD.of_below hb⟩
    have Hq := Lib.hid hq
    have hne : ((mayE D f) != 0) = true := by rw [bne_iff_ne]; exact hm
    clear hq h hm
    generalize mayE D f = E at *
    go_enter Try.func58, Try.ntmps58
    go_wp2_with fail
    refine hmay.mono ?_
    rintro e w1 ⟨rfl, hb1⟩
    go_wp2_with fail
    go_ret
    exact Hq.out _ hb1

set_option maxHeartbeats 1000000 in
theorem sync_calls (d b : Nat) (sw : Bool) (V : Int → Value) (D : DS) (f : Int) (w : World) (h : DiskAt X w d b sw V D) (hs : D.steps < 1099511627776) :
    Calls Try.prog 18 #[.pointer (some ⟨d, 0, none⟩), .int .i64 f] w fun e w' => opPost X w d b sw D f (D.put f (D.b f) (D.b f).length) e w' := by
  have hmay := may_calls d b sw V D f w h
  by_cases hm : mayE D f = 0
  · have hf := mayE_in hm
    rw [hm] at hmay
    go_enter Try.func18, Try.ntmps18
    go_wp2_with fail
    refine hmay.mono ?_
    rintro e w1 ⟨rfl, hb1⟩
    have h1 := h.move hb1
    obtain ⟨c0, c1, c2, c3, c4, cf⟩ := h1.cell
    have hl := (two_look (P := Try.prog) Try.underlying70 Try.underlying3 (zero_file w1) h1.map f).1
    obtain ⟨A, c, hx, hc, hr, hA⟩ := pick_file h1 hf
    rw [hx] at hl
    have hsz := h1.ok.size f
    have hlt := h1.lt
    clear hx
    have hbw := (Below.refl w1.heap.size w1).alloc (Nat.le_refl _) (.cells #[.slice A (D.b f).length c, .int .i64 ((D.b f).length : Int)] 69)
    go_wp2_with fail
    refine (step_calls d b sw V D f hf A _ c _ (D.b f) _ (h1.move hbw) (hr.below hbw) hc (fun ad e => ⟨(hA ad e).1, (hA ad e).2.1, Nat.lt_of_lt_of_le (hA ad e).2.2.1 hbw.size, (hA ad e).2.2.2⟩) (Nat.le_refl _) hsz hs).mono ?_
    rintro e w2 hp
    have hq := Lib.hid (opPost_of (f := f) hm (OnlyD.of_below (hb1.trans (hbw.mono hb1.size))) hp)
    obtain ⟨⟨V', hp⟩, _⟩ := hp
    rcases hp with ⟨_, rfl, _⟩ | ⟨_, rfl, _⟩
    · go_wp2_with fail
      go_ret
      exact hq.out
    · go_wp2_with fail
      go_ret
      exact hq.out
  · have hq : ∀ w', Below w.heap.size w w' → opPost X w d b sw D f (D.put f (D.b f) (D.b f).length) (.returned (.int .i64 (mayE D f))) w' := fun w' hb => ⟨⟨V, .inl ⟨hm, rfl, h.move hb⟩⟩, OnlyD.of_below hb⟩
    have Hq := Lib.hid hq
    have hne : ((mayE D f) != 0) = true := by rw [bne_iff_ne]; exact hm
    clear hq h hm
    generalize mayE D f = E at *
    go_enter Try.func18, Try.ntmps18
    go_wp2_with fail
    refine hmay.mono ?_
    rintro e w1 ⟨rfl, hb1⟩
    go_wp2_with fail
    go_ret
    exact Hq.out _ hb1

theorem info_u8d : (Try.prog.info? 5).map (fun i => (i.zero, i.size, i.bytes)) = some (some (.int .u8 0), 1, 1) := by kernel_rfl
/-- 's[:h:h]' -/
theorem cut_to {P : Program} {t e : TypeId} (ht : P.underlying t = some (.slice e)) (hsz : (P.info? e).map (·.size) = some 1) (A : Option Addr) (n c h : Nat) (hh : h ≤ n) (hc : n ≤ c) :
    ∃ A' : Option Addr, (∀ W : World, (Instr.slice t (.slice A n c) none (some (.int .i64 (h : Int))) (some (.int .i64 (h : Int)))).run P W = .ok (.slice A' h h) W) ∧ (∀ (w : World) (xs : List UInt8), Rd w A n (ub xs) → Rd w A' h (ub (xs.take h))) ∧
      ∀ ad, A' = some ad → ∃ a0, A = some a0 ∧ ad.block = a0.block := by
  obtain ⟨q, hq, hqs⟩ := Option.map_eq_some_iff.1 hsz
  refine ⟨if h = 0 then A else A.map (·.add (0 * 1)), fun W => ?_, fun w xs hr => ?_, fun ad e => ?_⟩
  · have hel : P.elem t = e := by simp [Program.elem, ht]
    have hu : P.underlying t = some (.slice (P.elem t)) := by rw [hel]; exact ht
    rw [run_slice_hm W t A n c hu .i64 .i64 (h : Int) (h : Int) (Int.natCast_nonneg _) (by omega) (by omega), hel]
    simp [sizeOf, typeInfo, hq, hqs, sliced, Result.andThen]
  · have := rd_mid (l := 0) hr hh (Nat.le_refl h)
    rw [ub_drop, ub_take] at this
    simpa using this
  · split at e
    · exact ⟨ad, e, rfl⟩
    · cases A with
      | none => cases e
      | some a0 => injection e with e; exact ⟨a0, rfl, by rw [← e, add_block]⟩

/-- what an append answers -/
def appPost (X : Nat → Prop) (w : World) (d b : Nat) (sw : Bool) (D : DS) (f : Int) (ys : List UInt8) (e : Ending) (w' : World) : Prop :=
  (mayE D f = 0 ∧ 4194304 < (D.b f).length + ys.length ∧ (∃ V', e = .returned (.int .i64 8) ∧ DiskAt X w' d b sw V' D) ∧ OnlyD d b w w') ∨
  ((mayE D f ≠ 0 ∨ (D.b f).length + ys.length ≤ 4194304) ∧ opPost X w d b sw D f (D.put f (D.b f ++ ys) (D.l f)) e w')

set_option maxHeartbeats 2000000 in
theorem append_calls (d b : Nat) (sw : Bool) (V : Int → Value) (D : DS) (f : Int) (B : Option Addr) (m cap : Nat) (ys : List UInt8) (w : World) (h : DiskAt X w d b sw V D) (hy : Rd w B m (ub ys)) (hm47 : m ≤ 4294967296) (hX : ∀ k, w.heap.size ≤ k → X k) (hs : D.steps < 1099511627776) :
    Calls Try.prog 26 #[.pointer (some ⟨d, 0, none⟩), .int .i64 f, .slice B m cap] w fun e w' => appPost X w d b sw D f ys e w' := by
  have hmay := may_calls d b sw V D f w h
  have hyl := hy.len
  by_cases hm : mayE D f = 0
  · have hf := mayE_in hm
    rw [hm] at hmay
    go_enter Try.func26, Try.ntmps26
    go_wp2_with fail
    refine hmay.mono ?_
    rintro e w1 ⟨rfl, hb1⟩
    have h1 := h.move hb1
    obtain ⟨c0, c1, c2, c3, c4, cf⟩ := h1.cell
    have hl := (two_look (P := Try.prog) Try.underlying70 Try.underlying3 (zero_file w1) h1.map f).1
    obtain ⟨A, c, hx, hc, hr, hA⟩ := pick_file h1 hf
    rw [hx] at hl
    have hsz := h1.ok.size f
    have hla := h1.ok.last f
    have hlt := h1.lt
    have hb2 := (Below.refl w1.heap.size w1).alloc (Nat.le_refl _) (.cells #[.slice A (D.b f).length c, .int .i64 (D.l f : Int)] 69)
    have hy2 := hy.below (hb1.trans (hb2.mono hb1.size))
    clear hx
    simp only [fileV] at hl
    by_cases hfull : 4194304 < (D.b f).length + m
    · have Hq : ∀ w', Below w.heap.size w w' → appPost X w d b sw D f ys (.returned (.int .i64 8)) w' := fun w' hb => .inl ⟨hm, by omega, ⟨V, rfl, h.move hb⟩, OnlyD.of_below hb⟩
      have Hq := Lib.hid Hq
      have hbb := hb1.trans (hb2.mono hb1.size)
      generalize (D.b f).length = n at *
      clear hm h
      go_wp2_with fail
      go_ret
      exact Hq.out _ hbb
    · have Hq : ∀ e w', opPost X w d b sw D f (D.put f (D.b f ++ ys) (D.l f)) e w' → appPost X w d b sw D f ys e w' := fun e w' hp => .inr ⟨.inr (by omega), hp⟩
      have Hq := Lib.hid Hq
      obtain ⟨A1, hcut, hA1, hA2⟩ := cut_to (P := Try.prog) Try.underlying35 (size_of_info info_u8d) A (D.b f).length c (D.b f).length (Nat.le_refl _) hc
      have hr2 := hA1 _ _ (hr.below hb2)
      rw [List.take_of_length_le (Nat.le_refl _)] at hr2
      have hbb := hb1.trans (hb2.mono hb1.size)
      have x3 := alloc_new w1 (.cells #[.slice A (D.b f).length c, .int .i64 (D.l f : Int)] 69) _ rfl
      have hn4 : (D.b f).length + m ≤ 4194304 := by omega
      generalize hn : (D.b f).length = n at *
      generalize hl0 : D.l f = l at *
      have Hm := Lib.hid hm
      clear hm hA1 hb2 hn
      go_wp2_with (at_builtin; refine wpList_app_full rfl _ _ _ rfl 5 (.int .u8 0) 1 Try.underlying35 info_u8d rfl (by decide) rfl hr2 rfl hy2 (ub_one _) ?_ ?_)
      case _ => omega
      case _ =>
        intro A' c' w4 hc' hrd4 hb4 hbl4
        rw [← ub_append] at hrd4
        have x4 := (hb4.block w1.heap.size (by simp)).trans x3
        have y0 : w4.cell? ⟨w1.heap.size, 0, none⟩ = some (.slice A n c) := by rw [cell_row x4]; rfl
        have y1 : w4.cell? ⟨w1.heap.size, 1, none⟩ = some (.int .i64 (l : Int)) := by rw [cell_row x4]; rfl
        have yf := free_row x4 0
        have hb4' : Below w1.heap.size (w1.alloc (.cells #[.slice A n c, .int .i64 (l : Int)] 69)) w4 := hb4.mono (Nat.le_succ _)
        have hb5 : Below w1.heap.size w1 (w4.setCell ⟨w1.heap.size, 0, none⟩ (.slice A' (n + m) c')) := (((Below.refl w1.heap.size w1).alloc (Nat.le_refl _) _).trans hb4').setCell (p := ⟨w1.heap.size, 0, none⟩) (Nat.le_refl _) _
        have x5 := set_row x4 0 (.slice A' (n + m) c')
        have z0 : (w4.setCell ⟨w1.heap.size, 0, none⟩ (.slice A' (n + m) c')).cell? ⟨w1.heap.size, 0, none⟩ = some (.slice A' (n + m) c') := by rw [cell_row x5]; rfl
        have z1 : (w4.setCell ⟨w1.heap.size, 0, none⟩ (.slice A' (n + m) c')).cell? ⟨w1.heap.size, 1, none⟩ = some (.int .i64 (l : Int)) := by rw [cell_row x5]; rfl
        have hne : ∀ ad, A' = some ad → ad.block ≠ w1.heap.size ∧ ad.block ≠ d ∧ ad.block ≠ b ∧ ad.block < w4.heap.size ∧ X ad.block := by
          intro ad e
          have hs4 : w1.heap.size + 1 ≤ w4.heap.size := by simpa using hb4.size
          rcases hbl4 ad e with h | ⟨h, h'⟩
          · obtain ⟨a0, e0, eb⟩ := hA2 ad h
            have := hA a0 e0
            rw [eb]; exact ⟨by omega, this.1, this.2.1, by omega, this.2.2.2⟩
          · have h : w1.heap.size + 1 ≤ ad.block := by simpa using h
            have := hb1.size
            exact ⟨by omega, by omega, by omega, by omega, hX _ (by omega)⟩
        have hrd5 := hrd4.at_block (w' := w4.setCell ⟨w1.heap.size, 0, none⟩ (.slice A' (n + m) c')) (fun ad e => Below.heap_setCell _ _ _ _ (hne ad e).1)
        have hA5 : ∀ ad, A' = some ad → ad.block ≠ d ∧ ad.block ≠ b ∧ ad.block < (w4.setCell ⟨w1.heap.size, 0, none⟩ (.slice A' (n + m) c')).heap.size ∧ X ad.block := fun ad e => ⟨(hne ad e).2.1, (hne ad e).2.2.1, by simpa [World.setCell] using (hne ad e).2.2.2.1, (hne ad e).2.2.2.2⟩
        have h5 := h1.move hb5
        have ho5 : OnlyD d b w (w4.setCell ⟨w1.heap.size, 0, none⟩ (.slice A' (n + m) c')) := OnlyD.of_below (below_then hb1 hb5)
        clear hr hA hr2 hA2 hy2 hbb hcut hrd4 hb4 hbl4 hb4' x3 x4 x5 hb5 h1 c0 c1 c2 c3 c4 cf hl hy h
        go_wp2_with fail
        refine (step_calls d b sw V D f hf A' (n + m) c' l (D.b f ++ ys) _ h5 hrd5 hc' hA5 (by omega) hn4 hs).mono ?_
        rintro e w6 hp
        have hq := Hq.out _ _ (opPost_of (f := f) Hm.out ho5 hp)
        have hq := Lib.hid hq
        obtain ⟨⟨V', hp⟩, _⟩ := hp
        rcases hp with ⟨_, rfl, _⟩ | ⟨_, rfl, _⟩
        · go_wp2_with fail
          go_ret
          exact hq.out
        · go_wp2_with fail
          go_ret
          exact hq.out
  · have Hq : ∀ w', Below w.heap.size w w' → appPost X w d b sw D f ys (.returned (.int .i64 (mayE D f))) w' := fun w' hb => .inr ⟨.inl hm, ⟨⟨V, .inl ⟨hm, rfl, h.move hb⟩⟩, OnlyD.of_below hb⟩⟩
    have Hq := Lib.hid Hq
    have hne : ((mayE D f) != 0) = true := by rw [bne_iff_ne]; exact hm
    clear h hm
    generalize mayE D f = E at *
    go_enter Try.func26, Try.ntmps26
    go_wp2_with fail
    refine hmay.mono ?_
    rintro e w1 ⟨rfl, hb1⟩
    go_wp2_with fail
    go_ret
    exact Hq.out _ hb1

/-- what is read of a file -/
def readD (D : DS) (f : Int) : List UInt8 × Int := if mayE D f = 0 then (D.b f, 0) else ([], mayE D f)
set_option maxHeartbeats 1000000 in
theorem read_calls (d b : Nat) (sw : Bool) (V : Int → Value) (D : DS) (f : Int) (w : World) (h : DiskAt X w d b sw V D) :
    Calls Try.prog 45 #[.pointer (some ⟨d, 0, none⟩), .int .i64 f] w fun e w' => (∃ u k, e = .returned (.tuple #[u, .int .i64 (readD D f).2]) ∧ k = (readD D f).1.length ∧ w'.ownsRow w.heap.size 5 1 u k (ub (readD D f).1)) ∧ Below w.heap.size w w' := by
  have hmay := may_calls d b sw V D f w h
  by_cases hm : mayE D f = 0
  · have hf := mayE_in hm
    have he : readD D f = (D.b f, 0) := by unfold readD; rw [if_pos hm]
    rw [hm] at hmay
    rw [he]
    go_enter Try.func45, Try.ntmps45
    go_wp2_with fail
    refine hmay.mono ?_
    rintro e w1 ⟨rfl, hb1⟩
    have hbw := (Below.refl w1.heap.size w1).alloc (Nat.le_refl _) (.cells #[] 5)
    have h1 := (h.move hb1).move hbw
    obtain ⟨c0, c1, c2, c3, c4, cf⟩ := h1.cell
    have hl := (two_look (P := Try.prog) Try.underlying70 Try.underlying3 (zero_file _) h1.map f).1
    obtain ⟨A, c, hx, hc, hr, hA⟩ := pick_file h1 hf
    rw [hx] at hl
    have hsz := h1.ok.size f
    have hlt := h1.lt
    have hown := own_empty w1 hb1.size 5
    have hb2 := hb1.trans (hbw.mono hb1.size)
    clear hx
    generalize hxs : D.b f = xs at *
    have Hxs := Lib.hid hxs
    clear hxs
    generalize D.l f = l at *
    obtain ⟨n, hn⟩ : ∃ n, n = xs.length := ⟨_, rfl⟩
    rw [← hn] at hr hl hsz hc
    simp only [fileV] at hl
    have hfb := field_b A n c l (w1.alloc (.cells #[] 5))
    have Hn := Lib.hid hn
    clear hn
    go_wp2_with (at_builtin; refine wpList_app rfl _ _ _ rfl 5 (.int .u8 0) 1 Try.underlying35 info_u8d rfl (by decide) w.heap.size rfl hown rfl hr (ub_one _) ?_ hb2.size ?_)
    case _ => omega
    case _ =>
      intro v w2 hown2 hg2 _
      have hb3 := hb2.grown hg2 hb2.size (fun k hk => ((hown.lt k hk).1))
      clear hown hr hl hbw h1
      go_wp2_with fail
      go_ret2
      rw [Hxs.out]
      exact ⟨⟨v, n, rfl, Hn.out, by simpa using hown2⟩, hb3⟩
  · have he : readD D f = ([], mayE D f) := by unfold readD; rw [if_neg hm]
    have hne : ((mayE D f) != 0) = true := by rw [bne_iff_ne]; exact hm
    rw [he]
    clear h hm he
    generalize mayE D f = E at *
    go_enter Try.func45, Try.ntmps45
    go_wp2_with fail
    refine hmay.mono ?_
    rintro e w1 ⟨rfl, hb1⟩
    go_wp2_with fail
    go_ret2
    exact ⟨⟨_, 0, rfl, rfl, World.ownsRow_nil _ _ _ _⟩, hb1⟩

theorem dead_calls (d b : Nat) (sw : Bool) (V : Int → Value) (D : DS) (w : World) (h : DiskAt X w d b sw V D) :
    Calls Try.prog 32 #[.pointer (some ⟨d, 0, none⟩)] w fun e w' => e = .returned (.bool D.off) ∧ w = w' := by
  have hn := none_calls d b sw V D w h
  obtain ⟨c0, c1, c2, c3, c4, cf⟩ := h.cell
  go_enter Try.func32, Try.ntmps32
  go_wp2_with fail
  refine hn.mono ?_
  rintro e w1 ⟨rfl, rfl⟩
  go_wp2_with fail
  go_ret
  exact ⟨rfl, rfl⟩
theorem lives_calls (d b : Nat) (sw : Bool) (V : Int → Value) (D : DS) (w : World) (h : DiskAt X w d b sw V D) :
    Calls Try.prog 48 #[.pointer (some ⟨d, 0, none⟩)] w fun e w' => e = .returned (.int .i64 (D.lives : Int)) ∧ w = w' := by
  have hn := none_calls d b sw V D w h
  obtain ⟨c0, c1, c2, c3, c4, cf⟩ := h.cell
  go_enter Try.func48, Try.ntmps48
  go_wp2_with fail
  refine hn.mono ?_
  rintro e w1 ⟨rfl, rfl⟩
  go_wp2_with fail
  go_ret
  exact ⟨rfl, rfl⟩
theorem arm_calls (d b : Nat) (sw : Bool) (V : Int → Value) (D : DS) (k : Int) (w : World) (h : DiskAt X w d b sw V D) (h2 : k ≤ 9223372036854775807) :
    Calls Try.prog 17 #[.pointer (some ⟨d, 0, none⟩), .int .i64 k] w fun e w' => e = .returned (.tuple #[]) ∧ DiskAt X w' d b sw V { D with armed := max k (-1) } ∧ OnlyD d b w w' := by
  have hn := none_calls d b sw V D w h
  obtain ⟨c0, c1, c2, c3, c4, cf⟩ := h.cell
  have h3 := h.setArm (max k (-1)) (by omega) (by omega)
  have ho := (OnlyD.refl d b w).setCell 1 (.int .i64 (max k (-1)))
  by_cases hk : -1 < k
  · rw [Int.max_eq_left (by omega)] at h3 ho ⊢
    go_enter Try.func17, Try.ntmps17
    go_wp2_with fail
    refine hn.mono ?_
    rintro e w1 ⟨rfl, rfl⟩
    go_wp2_with fail
    go_end0
    exact ⟨rfl, h3, ho⟩
  · rw [Int.max_eq_right (by omega)] at h3 ho ⊢
    have hk1 : k ≤ -1 := by omega
    clear hk
    go_enter Try.func17, Try.ntmps17
    go_wp2_with fail
    refine hn.mono ?_
    rintro e w1 ⟨rfl, rfl⟩
    go_wp2_with fail
    all_goals
      go_end0
      first | exact ⟨rfl, h3, ho⟩ | (obtain rfl : k = -1 := by omega
                                     exact ⟨rfl, h3, ho⟩)
end Go.Proofs.Ythcajaadbdiggaa
