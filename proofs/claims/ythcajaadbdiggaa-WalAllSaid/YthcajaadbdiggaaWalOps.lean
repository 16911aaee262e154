/- Contracts of the small operations of a log. -/
import Derived.Test.YthcajaadbdiggaaWalMath
import Derived.Test.YthcajaadbdiggaaFrame
import Derived.Test.YthcajaadbdiggaaDiskDoS
import Derived.Deep.QuietTactic
import Derived.BigQuiet
import Derived.StillTailTactics
import Derived.Deep.RegionHeld3
namespace Go.Proofs.Ythcajaadbdiggaa
set_option maxRecDepth 10000
open Go.RowKit
variable {X : Nat → Prop}

def walCells (d : Nat) (W : WS) : Obj := .cells #[.pointer (some ⟨d, 0, none⟩), .int .i64 (W.lives : Int), .bool W.done, .int .i64 W.f, .int .u64 (W.gen : Int), .int .i64 (W.recs.length : Int), .int .i64 (W.bytes : Int)] 43 (0, 0)
theorem wal_cell {w : World} {p d : Nat} {W : WS} (h : w.heap[p]? = some (walCells d W)) :
    w.cell? ⟨p, 0, none⟩ = some (.pointer (some ⟨d, 0, none⟩)) ∧ w.cell? ⟨p, 1, none⟩ = some (.int .i64 (W.lives : Int)) ∧ w.cell? ⟨p, 2, none⟩ = some (.bool W.done) ∧ w.cell? ⟨p, 3, none⟩ = some (.int .i64 W.f) ∧ w.cell? ⟨p, 4, none⟩ = some (.int .u64 (W.gen : Int)) ∧
      w.cell? ⟨p, 5, none⟩ = some (.int .i64 (W.recs.length : Int)) ∧ w.cell? ⟨p, 6, none⟩ = some (.int .i64 (W.bytes : Int)) ∧ ∀ j, w.frozen? ⟨p, j, none⟩ = false := by
  refine ⟨?_, ?_, ?_, ?_, ?_, ?_, ?_, fun j => free_row h j⟩
  all_goals (rw [cell_row h]; rfl)

theorem wnone_calls (p d : Nat) (W : WS) (w : World) (h : w.heap[p]? = some (walCells d W)) :
    Calls Try.prog 53 #[.pointer (some ⟨p, 0, none⟩)] w fun e w' => e = .returned (.bool false) ∧ w = w' := by
  obtain ⟨c0, _⟩ := wal_cell h
  go_enter Try.func53, Try.ntmps53
  go_wp2_with fail
  go_ret
  exact ⟨rfl, rfl⟩
theorem wfails_calls (p d : Nat) (W : WS) (E : Int) (w : World) (h : w.heap[p]? = some (walCells d W)) :
    Calls Try.prog 56 #[.pointer (some ⟨p, 0, none⟩), .int .i64 E] w fun e w' => e = .returned (.int .i64 E) ∧ w'.heap[p]? = some (walCells d (W.fails E)) ∧ OnlyD p p w w' := by
  obtain ⟨c0, c1, c2, c3, c4, c5, c6, cf⟩ := wal_cell h
  by_cases hE : E = 0
  · subst hE
    have hW : W.fails 0 = W := by simp [WS.fails]
    rw [hW]
    go_enter Try.func56, Try.ntmps56
    go_wp2_with fail
    go_ret
    exact ⟨rfl, h, OnlyD.refl _ _ _⟩
  · have hne : (E != 0) = true := by rw [bne_iff_ne]; exact hE
    have h2 : (w.setCell ⟨p, 2, none⟩ (.bool true)).heap[p]? = some (walCells d (W.fails E)) := by
      rw [set_row h]; simp [walCells, WS.fails, hE]
    have ho := (OnlyD.refl p p w).setCell 2 (.bool true)
    clear h hE
    go_enter Try.func56, Try.ntmps56
    go_wp2_with fail
    go_ret
    exact ⟨rfl, h2, ho⟩
theorem wover_calls (p d b : Nat) (sw : Bool) (V : Int → Value) (D : DS) (W : WS) (w : World) (h : w.heap[p]? = some (walCells d W)) (hD : DiskAt X w d b sw V D) :
    Calls Try.prog 54 #[.pointer (some ⟨p, 0, none⟩)] w fun e w' => e = .returned (.bool (wOver D W)) ∧ ∃ m, w' = w.drewN m := by
  obtain ⟨c0, c1, c2, c3, c4, c5, c6, cf⟩ := wal_cell h
  have hlives := fun n => lives_calls d b sw V D (w.drewN n) (hD.move (below_drewN (Below.refl _ _) n))
  clear c3 c4 c5 c6 cf h hD
  unfold wOver
  generalize W.done = dn at *
  cases dn
  · by_cases hl : D.lives = W.lives
    · rw [hl] at hlives
      rw [decide_eq_false (by simp [hl])]
      generalize W.lives = ll at *
      go_enter Try.func54, Try.ntmps54
      go_wp2_with fail
      go_quiet (first | (go_at_call 48; exact quiet_left (hlives _)))
      go_wp2_with fail
      go_ret
      exact ⟨rfl, _, rfl⟩
    · rw [decide_eq_true hl]
      have hne : ((D.lives : Int) != (W.lives : Int)) = true := by rw [bne_iff_ne]; omega
      generalize W.lives = ll at *
      generalize D.lives = l2 at *
      clear hl
      go_enter Try.func54, Try.ntmps54
      go_wp2_with fail
      go_quiet (first | (go_at_call 48; exact quiet_left (hlives _)))
      go_wp2_with fail
      go_ret
      exact ⟨rfl, _, rfl⟩
  · go_enter Try.func54, Try.ntmps54
    go_wp2_with fail
    go_quiet (fail)
    go_wp2_with fail
    go_ret
    exact ⟨rfl, _, rfl⟩

abbrev P3 (d b p : Nat) : Nat → Prop := fun k => k = d ∨ k = b ∨ k = p
def WPost (X : Nat → Prop) (w : World) (p d b : Nat) (sw : Bool) (R : DS × WS × Int) (e : Ending) (w' : World) : Prop :=
  e = .returned (.int .i64 R.2.2) ∧ (∃ V', DiskAt X w' d b sw V' R.1) ∧ w'.heap[p]? = some (walCells d R.2.1) ∧ OnlyS (P3 d b p) w w'
theorem onlyS_drewN {S : Nat → Prop} (w : World) (m : Nat) : OnlyS S w (w.drewN m) := OnlyS.of_below (below_drewN (Below.refl _ _) m)

theorem wcount_calls (p d b : Nat) (sw : Bool) (V : Int → Value) (D : DS) (W : WS) (w : World) (h : w.heap[p]? = some (walCells d W)) (hD : DiskAt X w d b sw V D) :
    Calls Try.prog 22 #[.pointer (some ⟨p, 0, none⟩)] w fun e w' => e = .returned (.int .i64 (if wOver D W = true then 0 else (W.recs.length : Int))) ∧ ∃ m, w' = w.drewN m := by
  have hno := wnone_calls p d W w h
  have hov := wover_calls p d b sw V D W w h hD
  have h5 : ∀ m, (w.drewN m).cell? ⟨p, 5, none⟩ = some (.int .i64 (W.recs.length : Int)) := fun m => (wal_cell (w := w.drewN m) h).2.2.2.2.2.1
  clear h hD
  generalize wOver D W = ov at *
  cases ov
  · go_enter Try.func22, Try.ntmps22
    go_wp2_with fail
    refine hno.mono ?_
    rintro e w1 ⟨rfl, rfl⟩
    go_wp2_with fail
    refine hov.mono ?_
    rintro e w1 ⟨rfl, m, rfl⟩
    go_wp2_with fail
    go_ret
    exact ⟨rfl, _, rfl⟩
  · go_enter Try.func22, Try.ntmps22
    go_wp2_with fail
    refine hno.mono ?_
    rintro e w1 ⟨rfl, rfl⟩
    go_wp2_with fail
    refine hov.mono ?_
    rintro e w1 ⟨rfl, m, rfl⟩
    go_wp2_with fail
    go_ret
    exact ⟨rfl, _, rfl⟩
theorem wbytes_calls (p d b : Nat) (sw : Bool) (V : Int → Value) (D : DS) (W : WS) (w : World) (h : w.heap[p]? = some (walCells d W)) (hD : DiskAt X w d b sw V D) :
    Calls Try.prog 23 #[.pointer (some ⟨p, 0, none⟩)] w fun e w' => e = .returned (.int .i64 (if wOver D W = true then 0 else (W.bytes : Int))) ∧ ∃ m, w' = w.drewN m := by
  have hno := wnone_calls p d W w h
  have hov := wover_calls p d b sw V D W w h hD
  have h5 : ∀ m, (w.drewN m).cell? ⟨p, 6, none⟩ = some (.int .i64 (W.bytes : Int)) := fun m => (wal_cell (w := w.drewN m) h).2.2.2.2.2.2.1
  clear h hD
  generalize wOver D W = ov at *
  cases ov
  · go_enter Try.func23, Try.ntmps23
    go_wp2_with fail
    refine hno.mono ?_
    rintro e w1 ⟨rfl, rfl⟩
    go_wp2_with fail
    refine hov.mono ?_
    rintro e w1 ⟨rfl, m, rfl⟩
    go_wp2_with fail
    go_ret
    exact ⟨rfl, _, rfl⟩
  · go_enter Try.func23, Try.ntmps23
    go_wp2_with fail
    refine hno.mono ?_
    rintro e w1 ⟨rfl, rfl⟩
    go_wp2_with fail
    refine hov.mono ?_
    rintro e w1 ⟨rfl, m, rfl⟩
    go_wp2_with fail
    go_ret
    exact ⟨rfl, _, rfl⟩

set_option maxHeartbeats 2000000 in
theorem wsync_calls (p d b : Nat) (sw : Bool) (V : Int → Value) (D : DS) (W : WS) (w : World) (h : w.heap[p]? = some (walCells d W)) (hD : DiskAt X w d b sw V D) (hp : p ≠ d ∧ p ≠ b) (hX : ∀ k, X k → k ≠ p) (hs : D.steps < 1099511627776) :
    Calls Try.prog 21 #[.pointer (some ⟨p, 0, none⟩)] w fun e w' => WPost X w p d b sw (wSync D W) e w' := by
  have hno := wnone_calls p d W w h
  have hov := wover_calls p d b sw V D W w h hD
  unfold wSync
  by_cases hv : wOver D W = true
  · rw [if_pos hv]
    rw [hv] at hov
    have Hfin : ∀ m, Hid (WPost X w p d b sw (D, W, 6) (.returned (.int .i64 6)) (w.drewN m)) := fun m => Lib.hid ⟨rfl, ⟨V, hD.move (below_drewN (Below.refl _ _) m)⟩, h, onlyS_drewN w m⟩
    clear h hD hv
    go_enter Try.func21, Try.ntmps21
    go_wp2_with fail
    refine hno.mono ?_
    rintro e w1 ⟨rfl, rfl⟩
    go_wp2_with fail
    refine hov.mono ?_
    rintro e w1 ⟨rfl, m, rfl⟩
    go_wp2_with fail
    go_ret
    exact (Hfin m).out
  · rw [if_neg hv]
    rw [Bool.eq_false_iff.2 hv] at hov
    go_enter Try.func21, Try.ntmps21
    go_wp2_with fail
    refine hno.mono ?_
    rintro e w1 ⟨rfl, rfl⟩
    go_wp2_with fail
    refine hov.mono ?_
    rintro e w1 ⟨rfl, m, rfl⟩
    have hbm := (below_drewN (Below.refl w.heap.size w) m).drew
    have hx3 : (w.drewN m).drew.heap[p]? = some (walCells d W) := h
    have hD3 := hD.move hbm
    have ho3 := OnlyS.of_below (S := P3 d b p) hbm
    have hDp : ∀ (U U' : World) (V' : Int → Value) (D' : DS), DiskAt X U d b sw V' D' → OnlyD p p U U' → DiskAt X U' d b sw V' D' := fun U U' V' D' hU hO => hU.frame hO.size (fun k hk hh => by
      have hkp : k ≠ p := by
        rcases hh with hh | hh | hh
        · subst hh; exact hp.1.symm
        · subst hh; exact hp.2.symm
        · exact hX k hh
      exact hO.block k hk hkp hkp)
    clear h hD hbm hno hov
    go_wp2_with fail
    go_region_held3 (fun U => U.cell? ⟨p, 0, none⟩ = some (.pointer (some ⟨d, 0, none⟩)) ∧ U.cell? ⟨p, 3, none⟩ = some (.int .i64 W.f))
      (exact ⟨by rw [cell_row hx3]; rfl, by rw [cell_row hx3]; rfl⟩)
      (first
        | (go_at_call 18
           refine (syncR_calls W.f hD3 hs).mono ?_
           rintro e w' ⟨rfl, ⟨V', hD'⟩, ho'⟩
           replace hx3 := (ho'.block p (heap_lt hx3) hp.1 hp.2).trans hx3
           replace ho3 := ho3.trans (OnlyS.of_d ho' (.inl rfl) (.inr (.inl rfl)))
           clear hD3
           have hD3 := hD')
        | (go_at_call 56
           refine (wfails_calls p d W _ _ hx3).mono ?_
           rintro e w' ⟨rfl, hx', ho'⟩
           replace hD3 := hDp _ _ _ _ hD3 ho'
           replace ho3 := ho3.trans (OnlyS.of_d ho' (.inr (.inr rfl)) (.inr (.inr rfl)))
           clear hx3
           have hx3 := hx'))
    all_goals
      have Hfin : Hid (WPost X w p d b sw ((D.syncR W.f).1, W.fails (D.syncR W.f).2, (D.syncR W.f).2) (.returned (.int .i64 (D.syncR W.f).2)) _) := Lib.hid ⟨rfl, ⟨V', hD3⟩, hx3, ho3⟩
      clear hD3 hx3 ho3
      go_wp2_with fail
      go_ret
      exact Hfin.out

theorem own_one (w : World) {base : Nat} (hb : base ≤ w.heap.size) (v : Value) (t : TypeId) : (w.alloc (.cells #[v] t)).ownsRow base t 1 (.slice (some ⟨w.heap.size, 0, none⟩) 1 1) 1 [v] :=
  ⟨rfl, .inr ⟨_, 1, #[v], rfl, hb, alloc_new w _ _ rfl, Nat.le_refl _, by decide, rfl, rfl⟩⟩

set_option maxHeartbeats 4000000 in
theorem wapp_calls (p d b : Nat) (sw : Bool) (V : Int → Value) (D : DS) (W : WS) (A : Option Addr) (n cap : Nat) (r : List UInt8) (w : World) (h : w.heap[p]? = some (walCells d W)) (hD : DiskAt X w d b sw V D) (hp : p ≠ d ∧ p ≠ b) (hX : ∀ k, X k → k ≠ p) (hX2 : ∀ k, w.heap.size ≤ k → X k) (hs : D.steps < 1099511627776)
    (hr : Rd w A n (ub r)) (hn : n ≤ 140737488355328) (hb1 : W.bytes ≤ 4503599627370496) (hb2 : W.recs.length ≤ 4503599627370496) :
    Calls Try.prog 19 #[.pointer (some ⟨p, 0, none⟩), .slice A n cap] w fun e w' => WPost X w p d b sw (wApp D W r) e w' := by
  have hno := wnone_calls p d W w h
  have hov := wover_calls p d b sw V D W w h hD
  have hlr := hr.len
  subst hlr
  unfold wApp
  by_cases hv : wOver D W = true
  · rw [if_pos hv]
    rw [hv] at hov
    have Hfin : ∀ m, Hid (WPost X w p d b sw (D, W, 6) (.returned (.int .i64 6)) (w.drewN m)) := fun m => Lib.hid ⟨rfl, ⟨V, hD.move (below_drewN (Below.refl _ _) m)⟩, h, onlyS_drewN w m⟩
    clear h hD hv
    go_enter Try.func19, Try.ntmps19
    go_wp2_with fail
    refine hno.mono ?_
    rintro e w1 ⟨rfl, rfl⟩
    go_wp2_with fail
    refine hov.mono ?_
    rintro e w1 ⟨rfl, m, rfl⟩
    go_wp2_with fail
    go_ret
    exact (Hfin m).out
  · rw [if_neg hv]
    rw [Bool.eq_false_iff.2 hv] at hov
    by_cases hlong : 1048575 < r.length
    · rw [if_pos (by omega)]
      have Hfin : ∀ m, Hid (WPost X w p d b sw (D, W, 3) (.returned (.int .i64 3)) (w.drewN m)) := fun m => Lib.hid ⟨rfl, ⟨V, hD.move (below_drewN (Below.refl _ _) m)⟩, h, onlyS_drewN w m⟩
      clear h hD hv hr
      go_enter Try.func19, Try.ntmps19
      go_wp2_with fail
      refine hno.mono ?_
      rintro e w1 ⟨rfl, rfl⟩
      go_wp2_with fail
      refine hov.mono ?_
      rintro e w1 ⟨rfl, m, rfl⟩
      go_wp2_with fail
      go_ret
      exact (Hfin m).out
    · rw [if_neg (by omega)]
      obtain ⟨R1, E, hR⟩ : ∃ R1 E, D.appR W.f (recR r) = (R1, E) := ⟨_, _, rfl⟩
      rw [hR]
      suffices hsuf : Calls Try.prog 19 #[.pointer (some ⟨p, 0, none⟩), .slice A r.length cap] w fun e w' => (E ≠ 0 ∧ WPost X w p d b sw (R1, { W with done := true }, E) e w') ∨ (E = 0 ∧ WPost X w p d b sw (R1, { W with recs := W.recs ++ [r], bytes := W.bytes + (r.length + 9) }, 0) e w') by
        refine hsuf.mono fun e w' hh => ?_
        rcases hh with ⟨hE, hh⟩ | ⟨hE, hh⟩
        · rw [if_pos hE]; exact hh
        · rw [if_neg (by simpa using hE)]; exact hh
      go_enter Try.func19, Try.ntmps19
      go_wp2_with fail
      refine hno.mono ?_
      rintro e w1 ⟨rfl, rfl⟩
      go_wp2_with fail
      refine hov.mono ?_
      rintro e w1 ⟨rfl, m, rfl⟩
      have hbm := below_drewN (Below.refl w.heap.size w) m
      have h1 : (w.drewN m).heap[p]? = some (walCells d W) := h
      have hD1 := hD.move hbm
      have hr1 := hr.below hbm
      have hwm : (w.drewN m).heap.size = w.heap.size := rfl
      clear h hD hr hno hov
      generalize w.drewN m = Wm at *
      have hown := own_one Wm (base := Wm.heap.size) (Nat.le_refl _) (.int .u8 82) 5
      have hba := (Below.refl Wm.heap.size Wm).alloc (Nat.le_refl _) (.cells #[.int .u8 82] 5)
      have hr2 := hr1.below hba
      have Hwm := Lib.hid hwm
      clear hwm
      go_wp2_with (at_builtin; refine wpList_app rfl _ _ _ rfl 5 (.int .u8 0) 1 Try.underlying35 info_u8 rfl (by decide) Wm.heap.size rfl hown rfl hr2 (ub_one _) ?_ ?_ ?_)
      case _ => omega
      case _ => simp
      case _ =>
        intro v' w4 hown4 hg4 _
        have hb4 := hba.grown hg4 hba.size (fun k hk => (hown.lt k hk).1)
        change w4.ownsRow Wm.heap.size 5 1 v' (1 + r.length) (ub (82 :: r)) at hown4
        obtain ⟨B, c, rfl, hc, hrd⟩ := own_rd hown4
        clear hown hown4 hg4 hr2 hr1
        go_wp2_with fail
        refine (fput_calls none B 0 0 (1 + r.length) c [] (82 :: r) w4 (Rd.none_ _ _) hrd hc (by decide) (by omega)).mono ?_
        rintro e w5 ⟨⟨u, k, rfl, hk, hown5⟩, hb5⟩
        rw [List.nil_append] at hown5
        have hb5' := below_then hb4 hb5
        have hbw : Below w.heap.size w w5 := hbm.trans (hb5'.mono (Nat.le_of_eq Hwm.out.symm))
        have hkr : k = r.length + 9 := by omega
        obtain ⟨B5, c5, rfl, hc5, hrd5⟩ := own_rd hown5
        change Rd w5 B5 k (ub (recR r)) at hrd5
        have hx3 := ((hb5'.block p (heap_lt h1)).trans h1)
        have hD5 := hD1.move hb5'
        have ho5 := OnlyS.of_below (S := P3 d b p) hbw
        have hX5 : ∀ k, w5.heap.size ≤ k → X k := fun k hk => hX2 k (Nat.le_trans hbw.size hk)
        have hdr := (Below.refl w5.heap.size w5).drew
        have hD3 := hD5.move hdr
        have ho3 := ho5.trans (OnlyS.of_below hdr)
        have hrd3 := hrd5.below hdr
        replace hx3 := (hdr.block p (heap_lt hx3)).trans hx3
        have hDp : ∀ (U U' : World) (V' : Int → Value) (D' : DS), DiskAt X U d b sw V' D' → OnlyD p p U U' → DiskAt X U' d b sw V' D' := fun U U' V' D' hU hO => hU.frame hO.size (fun k hk hh => by
          have hkp : k ≠ p := by
            rcases hh with hh | hh | hh
            · subst hh; exact hp.1.symm
            · subst hh; exact hp.2.symm
            · exact hX k hh
          exact hO.block k hk hkp hkp)
        have hRD := Lib.hid hkr
        have HR := Lib.hid hR
        clear hD1 h1 hb4 hb5 hb5' hbw hba hbm hrd hown5 hdr hD5 ho5 hrd5 hkr hk hR
        go_wp2_with fail
        go_region_held3 (fun U => U.cell? ⟨p, 0, none⟩ = some (.pointer (some ⟨d, 0, none⟩)) ∧ U.cell? ⟨p, 3, none⟩ = some (.int .i64 W.f))
          (exact ⟨by rw [cell_row hx3]; rfl, by rw [cell_row hx3]; rfl⟩)
          (first
            | (go_at_call 26
               refine (appR_calls W.f hD3 hrd3 (by have := hRD.out; omega) hX5 hs).mono ?_
               rw [HR.out]
               rintro e w' ⟨rfl, ⟨V', hD'⟩, ho'⟩
               replace hx3 := (ho'.block p (heap_lt hx3) hp.1 hp.2).trans hx3
               replace ho3 := ho3.trans (OnlyS.of_d ho' (.inl rfl) (.inr (.inl rfl)))
               clear hD3
               have hD3 := hD')
            | (go_at_call 56
               refine (wfails_calls p d W _ _ hx3).mono ?_
               rintro e w' ⟨rfl, hx', ho'⟩
               replace hD3 := hDp _ _ _ _ hD3 ho'
               replace ho3 := ho3.trans (OnlyS.of_d ho' (.inr (.inr rfl)) (.inr (.inr rfl)))
               clear hx3
               have hx3 := hx'))
        all_goals
          by_cases hE : E = 0
          · subst hE
            have hW0 : W.fails 0 = W := by simp [WS.fails]
            change _ = some (walCells d (W.fails 0)) at hx3
            rw [hW0] at hx3
            obtain ⟨c0, c1, c2, c3, c4, c5', c6, cf⟩ := wal_cell hx3
            have hx9 : ((w'.setCell ⟨p, 5, none⟩ (.int .i64 ((W.recs.length : Int) + 1))).setCell ⟨p, 6, none⟩ (.int .i64 ((W.bytes : Int) + (k : Int)))).heap[p]? = some (walCells d { W with recs := W.recs ++ [r], bytes := W.bytes + (r.length + 9) }) := by
              rw [set_row (set_row hx3 _ _)]
              have e1 : ((W.recs ++ [r]).length : Int) = (W.recs.length : Int) + 1 := by simp
              have e2 : ((W.bytes + (r.length + 9) : Nat) : Int) = (W.bytes : Int) + (k : Int) := by have := hRD.out; omega
              simp only [walCells, e1, e2]
              rfl
            have ho9 := ((OnlyD.refl p p w').setCell 5 (.int .i64 ((W.recs.length : Int) + 1))).setCell 6 (.int .i64 ((W.bytes : Int) + (k : Int)))
            have hD9 := hDp _ _ _ _ hD3 ho9
            have Hfin : Hid (WPost X w p d b sw (R1, { W with recs := W.recs ++ [r], bytes := W.bytes + (r.length + 9) }, 0) (.returned (.int .i64 0)) ((w'.setCell ⟨p, 5, none⟩ (.int .i64 ((W.recs.length : Int) + 1))).setCell ⟨p, 6, none⟩ (.int .i64 ((W.bytes : Int) + (k : Int))))) := Lib.hid ⟨rfl, ⟨V', hD9⟩, hx9, ho3.trans (OnlyS.of_d ho9 (.inr (.inr rfl)) (.inr (.inr rfl)))⟩
            have hkb : k ≤ 1048584 := by have := hRD.out; omega
            clear hD3 hx3 ho3 hx9 ho9 hD9 hrd3 hRD
            go_wp2_with fail
            go_ret
            first | exact Hfin.out | exact .inr ⟨rfl, Hfin.out⟩
          · have hW0 : W.fails E = { W with done := true } := by simp [WS.fails, hE]
            change _ = some (walCells d (W.fails E)) at hx3
            rw [hW0] at hx3
            have hne : (E != 0) = true := by rw [bne_iff_ne]; exact hE
            have Hfin := Lib.hid (Or.inl (b := E = 0 ∧ WPost X w p d b sw (R1, { W with recs := W.recs ++ [r], bytes := W.bytes + (r.length + 9) }, 0) (.returned (.int .i64 E)) w') (And.intro hE (show WPost X w p d b sw (R1, { W with done := true }, E) (.returned (.int .i64 E)) w' from ⟨rfl, ⟨V', hD3⟩, hx3, ho3⟩)))
            clear hD3 hx3 ho3 hE
            go_wp2_with fail
            go_ret
            exact Hfin.out
end Go.Proofs.Ythcajaadbdiggaa
