/- Contracts of the document's log: Over, may, fails, Sync. -/
import Derived.Test.YthcajaadbdiggaaWalHelp
import Derived.Test.YthcajaadbdiggaaRef4Ops
import Derived.Test.YthcajaadbdiggaaWalWhole
namespace Go.Proofs.Ythcajaadbdiggaa
set_option maxRecDepth 1000000
open Go.RowKit

abbrev rwalCells (r : Nat) (W : WS) (v : Value) : Obj := .cells #[.pointer (some ⟨r, 0, none⟩), .int .i64 W.f, .int .u64 (W.gen : Int), v, .int .i64 (W.lives : Int), .bool W.done] 80 (0, 0)
/-- the document's log in memory, its records in a row of its own -/
structure RWal (w : World) (x r base : Nat) (W : WS) (v : Value) : Prop where
  cells : w.heap[x]? = some (rwalCells r W v)
  own : w.ownsRow base 9 1 v W.recs.length (svs W.recs)
theorem rwal_cell {w : World} {x r : Nat} {W : WS} {v : Value} (h : w.heap[x]? = some (rwalCells r W v)) :
    w.cell? ⟨x, 0, none⟩ = some (.pointer (some ⟨r, 0, none⟩)) ∧ w.cell? ⟨x, 1, none⟩ = some (.int .i64 W.f) ∧ w.cell? ⟨x, 2, none⟩ = some (.int .u64 (W.gen : Int)) ∧ w.cell? ⟨x, 3, none⟩ = some v ∧ w.cell? ⟨x, 4, none⟩ = some (.int .i64 (W.lives : Int)) ∧
      w.cell? ⟨x, 5, none⟩ = some (.bool W.done) ∧ ∀ j, w.frozen? ⟨x, j, none⟩ = false := by
  refine ⟨?_, ?_, ?_, ?_, ?_, ?_, fun j => free_row h j⟩
  all_goals (rw [cell_row h]; rfl)
/-- the blocks that the document's log writes -/
abbrev R3 (r x : Nat) (v : Value) : Nat → Prop := fun k => k = r ∨ k = x ∨ some k = v.ownBlock
def RWPost (w : World) (r x base : Nat) (v : Value) (R : DS × WS × Int) (e : Ending) (w' : World) : Prop :=
  e = .returned (.int .i64 R.2.2) ∧ RefAt w' r R.1 ∧ (∃ v', RWal w' x r base R.2.1 v' ∧ ∀ k, v'.ownBlock = some k → some k = v.ownBlock ∨ w.heap.size ≤ k) ∧ OnlyS (R3 r x v) w w'

theorem over5_calls (x r : Nat) (D : DS) (W : WS) (v : Value) (w : World) (h : w.heap[x]? = some (rwalCells r W v)) (hD : RefAt w r D) :
    Calls Try.prog 47 #[.pointer (some ⟨x, 0, none⟩)] w fun e w' => e = .returned (.bool (wOver D W)) ∧ ∃ m, w' = w.drewN m := by
  obtain ⟨c0, c1, c2, c3, c4, c5, cf⟩ := rwal_cell h
  obtain ⟨d4, d5, d6, d7, df⟩ := hD.cell
  clear c1 c2 c3 cf h hD d4 d5 d7 df
  unfold wOver
  generalize W.done = dn at *
  cases dn
  · by_cases hl : D.lives = W.lives
    · rw [hl] at d6
      rw [decide_eq_false (by simp [hl])]
      generalize W.lives = ll at *
      go_enter Try.func47, Try.ntmps47
      go_wp2_with fail
      go_quiet (fail)
      go_wp2_with fail
      go_ret
      exact ⟨rfl, _, rfl⟩
    · rw [decide_eq_true hl]
      have hne : ((D.lives : Int) != (W.lives : Int)) = true := by rw [bne_iff_ne]; omega
      generalize W.lives = ll at *
      generalize D.lives = l2 at *
      clear hl
      go_enter Try.func47, Try.ntmps47
      go_wp2_with fail
      go_quiet (fail)
      go_wp2_with fail
      go_ret
      exact ⟨rfl, _, rfl⟩
  · go_enter Try.func47, Try.ntmps47
    go_wp2_with fail
    go_quiet (fail)
    go_wp2_with fail
    go_ret
    exact ⟨rfl, _, rfl⟩

theorem fails5_calls (x r : Nat) (W : WS) (v : Value) (E : Int) (w : World) (h : w.heap[x]? = some (rwalCells r W v)) :
    Calls Try.prog 67 #[.pointer (some ⟨x, 0, none⟩), .int .i64 E] w fun e w' => e = .returned (.int .i64 E) ∧ w'.heap[x]? = some (rwalCells r (W.fails E) v) ∧ OnlyD x x w w' := by
  obtain ⟨c0, c1, c2, c3, c4, c5, cf⟩ := rwal_cell h
  by_cases hE : E = 0
  · subst hE
    have hW : W.fails 0 = W := by simp [WS.fails]
    rw [hW]
    go_enter Try.func67, Try.ntmps67
    go_wp2_with fail
    go_ret
    exact ⟨rfl, h, OnlyD.refl _ _ _⟩
  · have hne : (E != 0) = true := by rw [bne_iff_ne]; exact hE
    have h2 : (w.setCell ⟨x, 5, none⟩ (.bool true)).heap[x]? = some (rwalCells r (W.fails E) v) := by
      rw [set_row h]; simp [WS.fails, hE]
    have ho := (OnlyD.refl x x w).setCell 5 (.bool true)
    clear h hE
    go_enter Try.func67, Try.ntmps67
    go_wp2_with fail
    go_ret
    exact ⟨rfl, h2, ho⟩

/-- may a list be written? -/
def may5 (D : DS) (W : WS) (ls : List (List UInt8)) : Int := if wOver D W then 6 else if tooLong ls then 3 else 0
set_option maxHeartbeats 1000000 in
theorem may5_calls (x r : Nat) (D : DS) (W : WS) (v : Value) (A : Option Addr) (n cap : Nat) (ls : List (List UInt8)) (w : World) (h : w.heap[x]? = some (rwalCells r W v)) (hD : RefAt w r D) (hr : Rd w A n (svs ls)) (hn : n ≤ 140737488355328) :
    Calls Try.prog 66 #[.pointer (some ⟨x, 0, none⟩), .slice A n cap] w fun e w' => e = .returned (.int .i64 (may5 D W ls)) ∧ ∃ m, w' = w.drewN m := by
  have hov := over5_calls x r D W v w h hD
  have HE : Hid (∀ ov tl, wOver D W = ov → tooLong ls = tl → may5 D W ls = if ov then 6 else if tl then 3 else 0) := Lib.hid (fun ov tl h1 h2 => by unfold may5; rw [h1, h2])
  generalize may5 D W ls = E at *
  clear h hD
  generalize wOver D W = ov at *
  cases ov
  · go_enter Try.func66, Try.ntmps66
    go_wp2_with fail
    refine hov.mono ?_
    rintro e w1 ⟨rfl, m, rfl⟩
    clear hov
    have hr1 := hr.below (below_drewN (Below.refl w.heap.size w) m)
    have hlen : ls.length = n := by have := hr.1; rwa [svs, List.length_map] at this
    have Hlen := Lib.hid hlen
    clear hr hlen
    go_wp2_with fail
    go_loop [5] (fun i => ∃ k : Nat, k ≤ n ∧ i = .int .i64 k ∧ Hid (tooLong (ls.take k) = false)) (fun i => n - (intOf i).toNat)
    case atStart => exact ⟨0, Nat.zero_le _, rfl, (show tooLong [] = false from rfl)⟩
    case round =>
      obtain ⟨k, hk, rfl, Hk⟩ := hrel
      by_cases hlt : k < n
      · obtain ⟨ad, l, rfl, hl, hcell⟩ := str_at hr1 hlt
        change (w.drewN m).cell? (ad.add k) = some (.string (txt l)) at hcell
        have hk0 : (0 : Int) ≤ k := by omega
        have hk1 : (k : Int) < n := by omega
        have hts := txt_size l
        by_cases hlong : 1048575 < l.length
        · have hL : tooLong ls = true := List.any_eq_true.2 ⟨l, List.mem_of_getElem? hl, by simpa using hlong⟩
          have Hf : Hid (E = 3) := Lib.hid (HE.out _ _ rfl hL)
          clear hl hL
          go_wp2_with fail
          go_ret
          exact ⟨by rw [Hf.out]; rfl, _, rfl⟩
        · have Hk2 : Hid (tooLong (ls.take (k + 1)) = false) := Lib.hid (by
            have h0 := Hk.out
            unfold tooLong at h0 ⊢
            rw [List.take_add_one, hl, List.any_append, h0]
            simpa using hlong)
          clear hl
          go_wp2_with fail
          go_round
          case rel => exact ⟨k + 1, by omega, by go_num, Hk2⟩
          case measure => simp [intOf]; omega
      · obtain rfl : k = n := by omega
        have hL : tooLong ls = false := by have := Hk.out; rwa [List.take_of_length_le (by rw [Hlen.out]; omega)] at this
        have Hf : Hid (E = 0) := Lib.hid (HE.out _ _ rfl hL)
        clear hL
        go_wp2_with fail
        go_ret
        exact ⟨by rw [Hf.out]; rfl, _, rfl⟩
  · go_enter Try.func66, Try.ntmps66
    go_wp2_with fail
    refine hov.mono ?_
    rintro e w1 ⟨rfl, m, rfl⟩
    go_wp2_with fail
    go_ret
    exact ⟨by rw [HE.out _ _ rfl rfl]; rfl, _, rfl⟩

theorem own_at {w w' : World} {base n size : Nat} {e : TypeId} {v : Value} {xs : List Value} (h : w.ownsRow base e size v n xs) (hm : ∀ k, k < w.heap.size → v.ownBlock = some k → w'.heap[k]? = w.heap[k]?) : w'.ownsRow base e size v n xs := by
  refine ⟨h.1, ?_⟩
  rcases h.2 with hn | ⟨g, cap, cur, rfl, hb, hg, rest⟩
  · exact .inl hn
  · exact .inr ⟨g, cap, cur, rfl, hb, (hm g (heap_lt hg) rfl).trans hg, rest⟩
theorem RWal.move {w w' : World} {x r base : Nat} {W : WS} {v : Value} (h : RWal w x r base W v) {S : Nat → Prop} (ho : OnlyS S w w') (hx : ¬ S x) (hv : ∀ k, v.ownBlock = some k → ¬ S k) : RWal w' x r base W v :=
  ⟨(ho.block x (heap_lt h.cells) hx).trans h.cells, own_at h.own fun k hk e => ho.block k hk (hv k e)⟩
theorem RWal.below {w w' : World} {x r base : Nat} {W : WS} {v : Value} (h : RWal w x r base W v) (hb : Below w.heap.size w w') : RWal w' x r base W v :=
  h.move (S := fun _ => False) (OnlyS.of_below hb) (fun h => h) (fun _ _ h => h)
theorem own_blk5 {w : World} {base n size k : Nat} {e : TypeId} {v : Value} {xs : List Value} (h : w.ownsRow base e size v n xs) (hk : v.ownBlock = some k) : ∃ cur, w.heap[k]? = some (.cells cur e (0, 0)) := by
  rcases h.2 with ⟨rfl, _⟩ | ⟨g, cap, cur, rfl, _, hg, _⟩
  · cases hk
  · injection hk with hk; subst hk; exact ⟨cur, hg⟩
/-- the row of the records is no other block -/
theorem RWal.ne {w : World} {x r base k : Nat} {W : WS} {v : Value} (h : RWal w x r base W v) {c : Array Value} {t : TypeId} (hk : w.heap[k]? = some (.cells c t (0, 0))) (ht : t ≠ 9) : some k ≠ v.ownBlock := fun e => by
  obtain ⟨cur, hc⟩ := own_blk5 h.own e.symm
  rw [hk] at hc
  injection hc with hc
  injection hc with _ hc _
  exact ht hc

set_option maxHeartbeats 1000000 in
theorem sync5_calls (x r base : Nat) (D : DS) (W : WS) (v : Value) (w : World) (h : RWal w x r base W v) (hD : RefAt w r D) (hs : D.steps < 1099511627776) :
    Calls Try.prog 41 #[.pointer (some ⟨x, 0, none⟩)] w fun e w' => RWPost w r x base v (wSync D W) e w' := by
  have hmay := may5_calls x r D W v none 0 0 [] w h.cells hD (Rd.none_ _ _) (by decide)
  have hxr : x ≠ r := fun e => by
    have h1 := h.cells
    rw [e, hD.cells] at h1
    injection h1 with h1
    injection h1 with _ h1 _
    exact absurd h1 (by decide)
  have hown : ∀ k, v.ownBlock = some k → k ≠ r ∧ k ≠ x := fun k hk => ⟨fun e => h.ne hD.cells (by decide) (by rw [← e]; exact hk.symm), fun e => h.ne h.cells (by decide) (by rw [← e]; exact hk.symm)⟩
  unfold wSync
  unfold may5 at hmay
  by_cases hv : wOver D W = true
  · rw [if_pos hv] at hmay ⊢
    have Hfin : ∀ m, Hid (RWPost w r x base v (D, W, 6) (.returned (.int .i64 6)) (w.drewN m)) := fun m => Lib.hid ⟨rfl, hD.move rfl, ⟨v, h.below (below_drewN (Below.refl _ _) m), fun k hk => .inl hk.symm⟩, onlyS_drewN w m⟩
    clear h hD hv
    go_enter Try.func41, Try.ntmps41
    go_wp2_with fail
    refine hmay.mono ?_
    rintro e w1 ⟨rfl, m, rfl⟩
    go_wp2_with fail
    go_ret
    exact (Hfin m).out
  · rw [if_neg hv] at hmay ⊢
    rw [if_neg (by simp [tooLong])] at hmay
    go_enter Try.func41, Try.ntmps41
    go_wp2_with fail
    refine hmay.mono ?_
    rintro e w1 ⟨rfl, m, rfl⟩
    have hbm := (below_drewN (Below.refl w.heap.size w) m).drew
    have hx3 := h.below hbm
    have hD3 : RefAt (w.drewN m).drew r D := hD.move rfl
    have ho3 := OnlyS.of_below (S := R3 r x v) hbm
    clear h hD hbm hmay
    go_wp2_with fail
    go_region_held3 (fun U => U.cell? ⟨x, 0, none⟩ = some (.pointer (some ⟨r, 0, none⟩)) ∧ U.cell? ⟨x, 1, none⟩ = some (.int .i64 W.f))
      (exact ⟨by rw [cell_row hx3.cells]; rfl, by rw [cell_row hx3.cells]; rfl⟩)
      (first
        | (go_at_call 68
           refine (ref4sync_calls r D W.f _ hD3 hs).mono ?_
           rintro e w' ⟨rfl, hD', ho'⟩
           replace hx3 := hx3.move (OnlyS.of_d (S := fun k => k = r) ho' rfl rfl) hxr (fun k hk => (hown k hk).1)
           replace ho3 := ho3.trans (OnlyS.of_d ho' (.inl rfl) (.inl rfl))
           clear hD3
           have hD3 := hD')
        | (go_at_call 67
           refine (fails5_calls x r W v _ _ hx3.cells).mono ?_
           rintro e w' ⟨rfl, hx', ho'⟩
           replace hD3 := hD3.move (ho'.block r (heap_lt hD3.cells) hxr.symm hxr.symm)
           replace ho3 := ho3.trans (OnlyS.of_d ho' (.inr (.inl rfl)) (.inr (.inl rfl)))
           have hx4 : RWal w' x r base (W.fails (D.syncR W.f).2) v := ⟨hx', own_at hx3.own (fun k hk e => ho'.block k hk (hown k e).2 (hown k e).2)⟩
           clear hx3
           have hx3 := hx4))
    all_goals
      have Hfin : Hid (RWPost w r x base v ((D.syncR W.f).1, W.fails (D.syncR W.f).2, (D.syncR W.f).2) (.returned (.int .i64 (D.syncR W.f).2)) _) := Lib.hid ⟨rfl, hD3, ⟨v, hx3, fun k hk => .inl hk.symm⟩, ho3⟩
      clear hD3 hx3 ho3
      go_wp2_with fail
      go_ret
      exact Hfin.out
end Go.Proofs.Ythcajaadbdiggaa
