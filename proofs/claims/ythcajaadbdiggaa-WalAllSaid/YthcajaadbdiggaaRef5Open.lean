/- Contract of the document's Open of a log. -/
import Derived.Test.YthcajaadbdiggaaRef5Rew
namespace Go.Proofs.Ythcajaadbdiggaa
set_option maxRecDepth 1000000
open Go.RowKit

/-- the document's log, some files being read -/
def firstW5 (D : DS) (y : Option (Int × Nat × List (List UInt8) × Nat × Bool)) : WS := match y with
  | none => { f := -1, gen := 0, recs := [], bytes := 0, lives := D.lives, done := false }
  | some q => { f := q.1, gen := q.2.1, recs := q.2.2.1, bytes := q.2.2.2.1, lives := D.lives, done := false }
def spoil5 (y : Option (Int × Nat × List (List UInt8) × Nat × Bool)) : Bool := match y with
  | none => true
  | some q => q.2.2.2.2
theorem first_pk (D : DS) : firstW5 D (pk D 2) = wFirst D ∧ spoil5 (pk D 2) = (wPick D).2.2.2.2 := by
  have h := wPick_pk D
  unfold wFirst
  rw [h]
  cases pk D 2 with
  | none => exact ⟨rfl, rfl⟩
  | some y => exact ⟨rfl, rfl⟩
def OpenPost5 (w : World) (r : Nat) (D : DS) (e : Ending) (w' : World) : Prop :=
  (∃ W x v, (wOpen D).2.1 = some W ∧ e = .returned (.tuple #[.pointer (some ⟨x, 0, none⟩), .int .i64 0]) ∧ RefAt w' r (wOpen D).1 ∧ RWal w' x r w.heap.size W v ∧ w.heap.size ≤ x ∧ OnlyD r r w w') ∨
  ((wOpen D).2.1 = none ∧ (wOpen D).2.2 ≠ 0 ∧ e = .returned (.tuple #[.pointer none, .int .i64 (wOpen D).2.2]) ∧ RefAt w' r (wOpen D).1 ∧ OnlyD r r w w')
theorem pk_gt {D : DS} {k g : Nat} {recs : List (List UInt8)} {sp : Bool} (h : lookOf (D.b (k : Int)) = some (g, recs, sp)) (hg : (firstW5 D (pk D k)).gen < g) : pk D (k + 1) = some ((k : Int), g, recs, (D.b (k : Int)).length, sp) := by
  cases hp : pk D k with
  | none => exact pk_first h hp
  | some y => rw [hp] at hg; exact pk_new h hp hg
theorem pk_le {D : DS} {k g : Nat} {recs : List (List UInt8)} {sp : Bool} (h : lookOf (D.b (k : Int)) = some (g, recs, sp)) (hg : ¬ (firstW5 D (pk D k)).gen < g) : pk D (k + 1) = pk D k := by
  cases hp : pk D k with
  | none =>
    rw [hp] at hg
    have := (look_bound h).2.2.1
    exact absurd this hg
  | some y => rw [hp] at hg; rw [pk_old h hp hg]; exact hp
theorem open5_fin {w wr w' : World} {r base : Nat} {v : Value} {R : DS × WS × Int} (hbel : Below w.heap.size w wr) (hbase : w.heap.size ≤ base) (hv : ∀ k, v.ownBlock = some k → w.heap.size ≤ k) (ho : OnlyS (R3 r base v) wr w') : OnlyD r r w w' :=
  ⟨ho.os.trans hbel.os, ho.tape.trans hbel.tape, ho.output.trans hbel.output, Nat.le_trans hbel.size ho.size, fun k hk h1 _ => (ho.block k (Nat.lt_of_lt_of_le hk hbel.size) (fun hs => by
    rcases hs with h | h | h
    · exact h1 h
    · omega
    · have := hv k h.symm; omega)).trans (hbel.block k hk)⟩

theorem open5_take {w W4 : World} {x r base k g c9 : Nat} {N : Nat} {v : Value} {A9 : Option Addr} {D : DS} {Wk : WS} {recs : List (List UInt8)} (hx : RWal W4 x r base Wk v) (hD : RefAt W4 r D) (ho : W4.ownsRow base 9 1 (.slice A9 recs.length c9) recs.length (svs recs)) (hb : Below w.heap.size w W4) (hbx : w.heap.size ≤ x) (z : Nat) :
    RWal ((((W4.drewN N).setCell ⟨x, 1, none⟩ (.int .i64 (k : Int))).setCell ⟨x, 2, none⟩ (.int .u64 (g : Int))).setCell ⟨x, 3, none⟩ (.slice A9 recs.length c9)) x r base { f := (k : Int), gen := g, recs := recs, bytes := z, lives := Wk.lives, done := Wk.done } (.slice A9 recs.length c9) ∧
      RefAt ((((W4.drewN N).setCell ⟨x, 1, none⟩ (.int .i64 (k : Int))).setCell ⟨x, 2, none⟩ (.int .u64 (g : Int))).setCell ⟨x, 3, none⟩ (.slice A9 recs.length c9)) r D ∧
      Below w.heap.size w ((((W4.drewN N).setCell ⟨x, 1, none⟩ (.int .i64 (k : Int))).setCell ⟨x, 2, none⟩ (.int .u64 (g : Int))).setCell ⟨x, 3, none⟩ (.slice A9 recs.length c9)) := by
  have h1 : (W4.drewN N).heap[x]? = some (rwalCells r Wk v) := hx.cells
  have h2 : (W4.drewN N).heap[r]? = some (refCells D) := hD.cells
  have h3 : (W4.drewN N).ownsRow base 9 1 (.slice A9 recs.length c9) recs.length (svs recs) := ho
  have hxr := hx.x_ne_r hD
  have hne : ∀ q, (Value.slice A9 recs.length c9).ownBlock = some q → q ≠ x := fun q hq e => own_ne_blk ho hx.cells (by decide) (by rw [← e]; exact hq.symm)
  refine ⟨⟨?_, ?_⟩, ⟨?_, hD.ok⟩, (((below_drewN hb N).setCell (p := ⟨x, 1, none⟩) hbx _).setCell (p := ⟨x, 2, none⟩) hbx _).setCell (p := ⟨x, 3, none⟩) hbx _⟩
  · rw [set_row (set_row (set_row h1 1 _) 2 _) 3 _]; rfl
  · exact own_at h3 fun q hq e => by rw [Below.heap_setCell _ _ _ _ (hne q e), Below.heap_setCell _ _ _ _ (hne q e), Below.heap_setCell _ _ _ _ (hne q e)]
  · rw [Below.heap_setCell _ _ _ _ (fun e => hxr e.symm), Below.heap_setCell _ _ _ _ (fun e => hxr e.symm), Below.heap_setCell _ _ _ _ (fun e => hxr e.symm)]; exact h2

set_option maxHeartbeats 8000000 in
theorem open5_calls (r : Nat) (D : DS) (w : World) (hD : RefAt w r D) (hs : D.steps + 3 < 1099511627776) :
    Calls Try.prog 33 #[.pointer (some ⟨r, 0, none⟩)] w fun e w' => OpenPost5 w r D e w' := by
  obtain ⟨d4, d5, d6, d7, df⟩ := hD.cell
  have hrlt := heap_lt hD.cells
  have hba := (Below.refl w.heap.size w).alloc (Nat.le_refl _) (rwalCells r (firstW5 D none) (.slice none 0 0))
  have hx0 := alloc_new w (rwalCells r (firstW5 D none) (.slice none 0 0)) _ rfl
  have hx1 : RWal (w.alloc (rwalCells r (firstW5 D none) (.slice none 0 0))) w.heap.size r w.heap.size (firstW5 D none) (.slice none 0 0) := ⟨hx0, World.ownsRow_nil _ _ _ _⟩
  have hD1 : RefAt (w.alloc (rwalCells r (firstW5 D none) (.slice none 0 0))) r D := hD.move (hba.block r hrlt)
  go_enter Try.func33, Try.ntmps33
  go_wp2_with fail
  change Code.wp _ _ _ _ (w.alloc (rwalCells r (firstW5 D none) (.slice none 0 0)))
  generalize w.alloc (rwalCells r (firstW5 D none) (.slice none 0 0)) = W0 at *
  have HD0 := Lib.hid hD
  clear d4 d5 d6 d7 df hx0 hD
  go_loopw [5, 6] (fun sp i wr => ∃ (k : Nat) (v : Value), k ≤ 2 ∧ i = .int .i64 k ∧ sp = .bool (spoil5 (pk D k)) ∧ RWal wr w.heap.size r w.heap.size (firstW5 D (pk D k)) v ∧ RefAt wr r D ∧ Hid (k = 0 ∨ D.off = false) ∧ Below w.heap.size w wr) (fun _ i _ => 2 - (intOf i).toNat)
  case atStart => exact ⟨0, _, by decide, rfl, rfl, hx1, hD1, .inl rfl, hba⟩
  case round =>
    clear hx1 hD1 hba
    obtain ⟨k, v, hk, rfl, rfl, hx, hD, Hoff, hbel⟩ := hrel
    by_cases hk2 : k < 2
    · have hkf : (k : Int) = 0 ∨ (k : Int) = 1 := by omega
      have hread := ref4read_calls r D k wr hD
      have hfl := hD.ok.size (k : Int)
      by_cases hoff : D.off = true
      · have hrd : readD D k = ([], 6) := by unfold readD mayE; rw [hoff]; simp
        rw [hrd] at hread
        have Hfin : Hid (OpenPost5 w r D (.returned (.tuple #[.pointer none, .int .i64 6])) wr) := Lib.hid (.inr (by rw [wOpen_off hoff]; exact ⟨rfl, (by decide : (6 : Int) ≠ 0), rfl, hD, OnlyD.of_below hbel⟩))
        clear hx hD hoff hrd
        generalize spoil5 (pk D k) = spb at *
        go_wp2_with fail
        refine hread.mono ?_
        rintro e w2 ⟨rfl, rfl⟩
        go_wp2_with fail
        go_ret2
        exact Hfin.out
      · have hrd : readD D k = (D.b k, 0) := by unfold readD mayE; rw [if_neg hoff, if_pos hkf, if_pos rfl]
        rw [hrd] at hread
        have Hoff2 : Hid (D.off = false) := Lib.hid (Bool.eq_false_iff.2 hoff)
        clear Hoff hrd
        have hlk := look5_calls (D.b (k : Int)) wr (by omega)
        generalize hspb : spoil5 (pk D k) = spb at *
        have Hspb := Lib.hid hspb
        clear hspb
        go_wp2_with fail
        refine hread.mono ?_
        rintro e w2 ⟨rfl, rfl⟩
        go_wp2_with fail
        refine hlk.mono ?_
        rintro e w3 ⟨hlook, hb3⟩
        clear hread hlk
        unfold LookPost5 at hlook
        cases hL : lookOf (D.b (k : Int)) with
        | none =>
          rw [hL] at hlook
          obtain ⟨sp, g', A9, n9, c9, rfl⟩ := hlook
          have hba := (Below.refl w3.heap.size w3).alloc (Nat.le_refl _) (.cells #[.bool false, .bool sp, .int .u64 (g' : Int), .slice A9 n9 c9] 105)
          have x0 := alloc_new w3 (.cells #[.bool false, .bool sp, .int .u64 (g' : Int), .slice A9 n9 c9] 105) _ rfl
          have z0 : (w3.alloc (.cells #[.bool false, .bool sp, .int .u64 (g' : Int), .slice A9 n9 c9] 105)).cell? ⟨w3.heap.size, 0, none⟩ = some (.bool false) := by rw [cell_row x0]; rfl
          have hb4 := below_then hb3 hba
          have hx4 := (hx.below hb4).below ((Below.refl _ _).drew)
          have hD4 : RefAt (w3.alloc (.cells #[.bool false, .bool sp, .int .u64 (g' : Int), .slice A9 n9 c9] 105)) r D := hD.move (hb4.block r (heap_lt hD.cells))
          have hbel4 := below_then hbel hb4
          have hpe := pk_none hL
          have Hst : Hid (∃ v : Value, RWal (w3.alloc (.cells #[.bool false, .bool sp, .int .u64 (g' : Int), .slice A9 n9 c9] 105)) w.heap.size r w.heap.size (firstW5 D (pk D (k + 1))) v) := Lib.hid (by rw [hpe]; exact ⟨v, hx.below hb4⟩)
          have Hsp2 : Hid (spb = spoil5 (pk D (k + 1))) := Lib.hid (by rw [hpe]; exact Hspb.out.symm)
          clear hb3 hba x0 hb4 hx4 hx hD hbel hL hpe
          generalize hW4 : w3.alloc (.cells #[.bool false, .bool sp, .int .u64 (g' : Int), .slice A9 n9 c9] 105) = W4 at *
          have HW4 := Lib.hid hW4
          go_wp2_with fail
          clear hW4
          go_quiet (fail)
          go_wp2_with fail
          go_roundw
          case rel =>
            obtain ⟨v', hv'⟩ := Hst.out
            exact ⟨k + 1, v', by omega, by go_num, by rw [Hsp2.out], hv'.below (below_drewN (Below.refl _ _) _), hD4.move rfl, .inr Hoff2.out, below_drewN hbel4 _⟩
          case measure => simp [intOf]; omega
        | some q =>
          rw [hL] at hlook
          obtain ⟨g, recs, sp⟩ := q
          obtain ⟨A9, c9, rfl, hown9⟩ := hlook
          have hba := (Below.refl w3.heap.size w3).alloc (Nat.le_refl _) (.cells #[.bool true, .bool sp, .int .u64 (g : Int), .slice A9 recs.length c9] 105)
          have x0 := alloc_new w3 (.cells #[.bool true, .bool sp, .int .u64 (g : Int), .slice A9 recs.length c9] 105) _ rfl
          have hb4 := below_then hb3 hba
          have hx4 := hx.below hb4
          have hD4 : RefAt (w3.alloc (.cells #[.bool true, .bool sp, .int .u64 (g : Int), .slice A9 recs.length c9] 105)) r D := hD.move (hb4.block r (heap_lt hD.cells))
          have hbel4 := below_then hbel hb4
          have hown4 := own_lower (hown9.alloc (.cells #[.bool true, .bool sp, .int .u64 (g : Int), .slice A9 recs.length c9] 105)) hbel.size
          have hw3 : w.heap.size < w3.heap.size := Nat.lt_of_lt_of_le (heap_lt hx.cells) hb3.size
          go_wp2_with fail
          clear hb3 hba hb4 hx hD hbel hown9
          generalize w3.alloc (.cells #[.bool true, .bool sp, .int .u64 (g : Int), .slice A9 recs.length c9] 105) = W4 at *
          have z0 : W4.cell? ⟨w3.heap.size, 0, none⟩ = some (.bool true) := by rw [cell_row x0]; rfl
          have z1 : W4.cell? ⟨w3.heap.size, 1, none⟩ = some (.bool sp) := by rw [cell_row x0]; rfl
          have z2 : W4.cell? ⟨w3.heap.size, 2, none⟩ = some (.int .u64 (g : Int)) := by rw [cell_row x0]; rfl
          have z3 : W4.cell? ⟨w3.heap.size, 3, none⟩ = some (.slice A9 recs.length c9) := by rw [cell_row x0]; rfl
          obtain ⟨a0, a1, a2, a3, a4, a5, af⟩ := rwal_cell hx4.cells
          by_cases hgt : (firstW5 D (pk D k)).gen < g
          · have hpe := pk_gt hL hgt
            have hgi : (((firstW5 D (pk D k)).gen : Int) < (g : Int)) = True := eq_true (by omega)
            have Hpe := Lib.hid hpe
            have hlv : (firstW5 D (pk D k)).lives = D.lives ∧ (firstW5 D (pk D k)).done = false := by cases pk D k <;> exact ⟨rfl, rfl⟩
            clear hgt hL hpe x0
            go_wp2_with fail
            go_quiet (fail)
            go_wp2_with fail
            have hne1 : w3.heap.size ≠ w.heap.size := by omega
            have hne2 : ¬ w.heap.size = w3.heap.size := by omega
            go_region
            all_goals
              obtain ⟨t1, t2, t3⟩ := open5_take (k := k) (g := g) (N := nq + 1) hx4 hD4 hown4 hbel4 (Nat.le_refl _) (D.b (k : Int)).length
              have T1 : Hid (RWal _ _ _ _ (firstW5 D (pk D (k + 1))) _) := Lib.hid (by
                rw [Hpe.out]
                rw [hlv.1, hlv.2] at t1
                exact t1)
              have Hsp2 : Hid (sp = spoil5 (pk D (k + 1))) := Lib.hid (by rw [Hpe.out]; rfl)
              have T2 := Lib.hid t2
              have T3 := Lib.hid t3
              clear t1 t2 t3 hx4 hD4 hown4 hbel4 z0 z1 z2 z3 a0 a1 a2 a3 a4 a5 af
              go_wp2_with fail
              go_roundw
              case rel => exact ⟨k + 1, _, by omega, by go_num, by rw [Hsp2.out], T1.out, T2.out, .inr Hoff2.out, T3.out⟩
              case measure => simp [intOf]; omega
          · have hpe := pk_le hL hgt
            have hgi : (((firstW5 D (pk D k)).gen : Int) < (g : Int)) = False := eq_false (by omega)
            have Hst : Hid (RWal W4 w.heap.size r w.heap.size (firstW5 D (pk D (k + 1))) v) := Lib.hid (by rw [hpe]; exact hx4)
            have Hsp2 : Hid (spb = spoil5 (pk D (k + 1))) := Lib.hid (by rw [hpe]; exact Hspb.out.symm)
            clear hgt hx4 hL hpe x0 hown4
            generalize (firstW5 D (pk D k)).gen = G0 at *
            go_quiet (fail)
            go_wp2_with fail
            go_roundw
            case rel => exact ⟨k + 1, v, by omega, by go_num, by rw [Hsp2.out], Hst.out.below (below_drewN (Below.refl _ _) _), hD4.move rfl, .inr Hoff2.out, below_drewN hbel4 _⟩
            case measure => simp [intOf]; omega
    · obtain rfl : k = 2 := by omega
      have hoff : D.off = false := Hoff.out.resolve_left (by decide)
      obtain ⟨hf1, hf2⟩ := first_pk D
      rw [hf1] at hx
      rw [hf2]
      obtain ⟨b1, b2, b3, b4, b5⟩ := wFirst_bound hD.ok
      obtain ⟨A9, c9, rfl, hcc9, hrd9⟩ := own_rd hx.own
      have a3 := (rwal_cell hx.cells).2.2.2.1
      cases hspt : (wPick D).2.2.2.2
      · have Hfin : Hid (OpenPost5 w r D (.returned (.tuple #[.pointer (some ⟨w.heap.size, 0, none⟩), .int .i64 0])) wr) := Lib.hid (.inl (by rw [wOpen_clean hoff hspt]; exact ⟨_, _, _, rfl, rfl, hD, hx, Nat.le_refl _, OnlyD.of_below hbel⟩))
        clear hx hD hrd9 hcc9 a3 hf1 hf2
        go_wp2_with fail
        go_ret2
        exact Hfin.out
      · have htx : TextsAt wr (fun k => k = r ∨ k = w.heap.size) A9 (wFirst D).recs.length (wFirst D).recs := ⟨hrd9, fun ad e => by
          subst e
          have h1 := hx.own_ne hD _ rfl
          exact ⟨fun h => h.elim h1.1 h1.2, (hx.own.lt _ rfl).2⟩⟩
        have hrew := rew5_calls w.heap.size r w.heap.size D (wFirst D) (.slice A9 (wFirst D).recs.length c9) A9 (wFirst D).recs.length c9 (wFirst D).recs wr hx hD hs htx (by omega) (by omega) b3 hbel.size
        have hvo : ∀ k, (Value.slice A9 (wFirst D).recs.length c9).ownBlock = some k → w.heap.size ≤ k := fun k hk => (hx.own.lt k hk).1
        have Hbel := Lib.hid hbel
        clear hx hD hrd9 hcc9 htx hf1 hf2 b1 b2 b3 b4 b5 hbel
        obtain ⟨Q, hQ⟩ : ∃ Q, wRew D (wFirst D) (wFirst D).recs = Q := ⟨_, rfl⟩
        rw [hQ] at hrew
        have HQ := Lib.hid hQ
        clear hQ
        generalize (wFirst D).recs.length = n9 at *
        go_wp2_with fail
        refine hrew.mono ?_
        rintro e w9 ⟨rfl, hD9, ⟨v9, hx9, -⟩, ho9⟩
        have hoD := open5_fin (R := Q) Hbel.out (Nat.le_refl _) hvo ho9
        by_cases hE : Q.2.2 = 0
        · have Hfin : Hid (OpenPost5 w r D (.returned (.tuple #[.pointer (some ⟨w.heap.size, 0, none⟩), .int .i64 0])) w9) := Lib.hid (.inl (by rw [wOpen_rew hoff hspt HQ.out hE]; exact ⟨_, _, _, rfl, rfl, hD9, hx9, Nat.le_refl _, hoD⟩))
          rw [hE]
          clear hrew hx9 hD9 ho9 hoD hE a3 hvo
          go_wp2_with fail
          go_ret2
          exact Hfin.out
        · have hne : (Q.2.2 != 0) = true := by rw [bne_iff_ne]; exact hE
          have Hfin : Hid (OpenPost5 w r D (.returned (.tuple #[.pointer none, .int .i64 Q.2.2])) w9) := Lib.hid (.inr (by rw [wOpen_bad hoff hspt HQ.out hE]; exact ⟨rfl, hE, rfl, hD9, hoD⟩))
          clear hrew hx9 hD9 ho9 hoD hE a3 hvo
          generalize Q.2.2 = E at *
          go_wp2_with fail
          go_ret2
          exact Hfin.out
end Go.Proofs.Ythcajaadbdiggaa
