/- Contract of Power. -/
import Derived.Test.YthcajaadbdiggaaDiskOps
import Derived.Test.YthcajaadbdiggaaMapRange
namespace Go.Proofs.Ythcajaadbdiggaa
set_option maxRecDepth 10000
open Go.RowKit
open Go.ChangeMaps (setBlock heap_setBlock_same heap_setBlock_other)
variable {X : Nat → Prop}

/-- how much of a file lasts behind a failure of the power -/
def newL (D : DS) (zs : List Int) (g : Int) : Nat := D.l g + min (max (zs.getD g.toNat 0) 0).toNat ((D.b g).length - D.l g)
/-- the files of a set are cut -/
def DS.cuts (D : DS) (zs : List Int) (S : Int → Bool) : DS := { D with b := fun g => if S g then (D.b g).take (newL D zs g) else D.b g, l := fun g => if S g then newL D zs g else D.l g }
def DS.power (D : DS) (zs : List Int) : DS := { D.cuts zs (fun g => decide (g = 0 ∨ g = 1)) with off := false, armed := -1, lives := D.lives + 1 }
theorem newL_le {D : DS} (h : D.Ok) (zs : List Int) (g : Int) : newL D zs g ≤ (D.b g).length := by
  have := h.last g
  unfold newL; omega
theorem DS.cuts_ok {D : DS} (h : D.Ok) (zs : List Int) (S : Int → Bool) : (D.cuts zs S).Ok := by
  refine ⟨fun g => ?_, fun g => ?_, h.arm1, h.arm2, h.lives, h.steps⟩
  · have := newL_le h zs g
    simp only [DS.cuts]; split
    · rw [List.length_take]; omega
    · exact h.last g
  · have := h.size g
    simp only [DS.cuts]; split
    · rw [List.length_take]; omega
    · exact h.size g
theorem DS.cuts_put {D : DS} (zs : List Int) (S : Int → Bool) {f : Int} (hf : S f = false) :
    (D.cuts zs S).put f ((D.b f).take (newL D zs f)) (newL D zs f) = D.cuts zs (fun g => S g || decide (g = f)) := by
  simp only [DS.cuts, DS.put]
  congr 1
  · funext g
    by_cases h : g = f
    · subst h; simp
    · simp [h]
  · funext g
    by_cases h : g = f
    · subst h; simp
    · simp [h]

/-- how many keys a range has not yet seen -/
def leftN (w : World) (r : Nat) : Nat := match w.heap[r]? with
  | some (.mapIter _ _ seen _) => 2 - seen.size
  | _ => 0
theorem block_other (w : World) (r : Nat) (o : Obj) {k : Nat} (h : k ≠ r) : (setBlock w r o).heap[k]? = w.heap[k]? := by
  simp [setBlock, Array.getElem?_setIfInBounds_ne (Ne.symm h)]
/-- the range's own block, turned -/
theorem DiskAt.iter {w : World} {d b r : Nat} {sw : Bool} {V : Int → Value} {D : DS} {m : Option Nat} {s c : Nat} {seen : Array Nat} (h : DiskAt X w d b sw V D) (hr : w.heap[r]? = some (.mapIter m s seen c)) (o : Obj) : DiskAt X (setBlock w r o) d b sw V D := by
  have hd : d ≠ r := by intro e; have := h.cells; rw [e, hr] at this; cases this
  have hb : b ≠ r := by intro e; have := h.map; rw [e, hr] at this; cases this
  have hs : (setBlock w r o).heap.size = w.heap.size := by simp [setBlock]
  refine ⟨by rw [block_other w r o hd]; exact h.cells, by rw [block_other w r o hb]; exact h.map, fun f hf => ?_, h.ok⟩
  obtain ⟨A, c', h1, h2, h3, h4⟩ := h.file f hf
  refine ⟨A, c', h1, h2, ⟨h3.1, fun hn => ?_⟩, fun ad e => by rw [hs]; exact h4 ad e⟩
  obtain ⟨ad, e, hc⟩ := h3.2 hn
  refine ⟨ad, e, fun j u hu => ?_⟩
  have hj := hc j u hu
  have hne : (ad.add j).block ≠ r := by
    intro e2
    unfold World.cell? at hj
    rw [e2, hr] at hj
    cases hj
  exact (World.cell?_of_block (block_other w r o hne)).trans hj
theorem range_two (w : World) (t k e : TypeId) (b : Nat) {sw : Bool} {v0 v1 : Value} (ht : Try.prog.underlying t = some (.map k e)) (hb : w.heap[b]? = some (.map (twoEs sw v0 v1) 2)) :
    (Instr.range t (.map (some b))).run Try.prog w = .ok (.pointer (some ⟨w.heap.size, 0, none⟩)) (w.alloc (.mapIter (some b) 2 #[] 2)) := by
  have h1 := MapKept.run_getObj_map (P := Try.prog) hb
  simp [Instr.range, run_underlying ht, Sem.run_bind, h1, Result.andThen, newObj, Sem.run]

theorem run_max2 {P : Program} (ts : Array TypeId) (t : TypeId) (a b : Int) (W : World) : (Builtin.max_ ts t #[.int .i64 a, .int .i64 b]).run P W = .ok (.int .i64 (max a b)) W := by
  rw [run_max_int2]
  congr 2
  split <;> omega
theorem run_min2 {P : Program} (ts : Array TypeId) (t : TypeId) (a b : Int) (W : World) : (Builtin.min_ ts t #[.int .i64 a, .int .i64 b]).run P W = .ok (.int .i64 (min a b)) W := by
  rw [run_min_int2]
  congr 2
  split <;> omega
set_option maxHeartbeats 1000000 in
theorem power_calls (d b : Nat) (sw : Bool) (V : Int → Value) (D : DS) (A : Option Addr) (n cap : Nat) (zs : List Int) (w : World) (h : DiskAt X w d b sw V D) (hr : ∀ w', OnlyD d b w w' → Rd w' A n (zs.map (Value.int .i64)))
    (hz : ∀ z ∈ zs, -9223372036854775808 ≤ z ∧ z ≤ 9223372036854775807) (hn : n ≤ 1073741824) (hlv : D.lives < 1099511627776) :
    Calls Try.prog 30 #[.pointer (some ⟨d, 0, none⟩), .slice A n cap] w fun e w' => e = .returned (.tuple #[]) ∧ (∃ V', DiskAt X w' d b sw V' (D.power zs)) ∧ OnlyD d b w w' := by
  have hno := none_calls d b sw V D w h
  obtain ⟨c0, c1, c2, c3, c4, cf⟩ := h.cell
  have hrg := range_two w 70 3 69 b Try.underlying70 h.map
  go_enter Try.func30, Try.ntmps30
  go_wp2_with fail
  refine hno.mono ?_
  rintro e w1 ⟨rfl, rfl⟩
  go_wp2_with fail
  have hr0 : (w.alloc (.mapIter (some b) 2 #[] 2)).heap[w.heap.size]? = some (.mapIter (some b) 2 #[] 2) := alloc_new w _ _ rfl
  have hd0 := h.move ((Below.refl w.heap.size w).alloc (Nat.le_refl _) (.mapIter (some b) 2 #[] 2))
  have ho0 := OnlyD.of_below (d := d) (b := b) ((Below.refl w.heap.size w).alloc (Nat.le_refl _) (.mapIter (some b) 2 #[] 2))
  have hcut0 : D.cuts zs (fun _ => false) = D := rfl
  clear c0 c1 c2 c3 c4 cf hrg hno
  go_loopw [] (fun wr => ∃ (S : Int → Bool) (seen : Array Nat) (V' : Int → Value), DiskAt X wr d b sw V' (D.cuts zs S) ∧ Hid (wr.heap[w.heap.size]? = some (.mapIter (some b) 2 seen 2)) ∧ Hid ((∀ f, f = 0 ∨ f = 1 → seen.contains (twoAt sw f) = S f) ∧ ∀ f, ¬ (f = 0 ∨ f = 1) → S f = false) ∧ Hid (seen.size = (if S 0 then 1 else 0) + (if S 1 then 1 else 0)) ∧ OnlyD d b w wr) (fun wr => leftN wr w.heap.size)
  case atStart => exact ⟨fun _ => false, #[], V, hcut0 ▸ hd0, hr0, ⟨fun f _ => by simp, fun _ _ => rfl⟩, rfl, ho0⟩
  case round =>
    obtain ⟨S, seen, V', hd, Hit, Hs, Hn, ho⟩ := hrel
    rcases two_next (P := Try.prog) (ty := 0) Hit.out hd.map (by decide) with ⟨hall, hrun⟩ | ⟨f, hf, hfs, w1, hw1, hrun⟩
    · have hS : S = fun g => decide (g = 0 ∨ g = 1) := by
        funext g
        by_cases hg : g = 0 ∨ g = 1
        · rw [← Hs.out.1 g hg, hall g hg, decide_eq_true hg]
        · rw [Hs.out.2 g hg, decide_eq_false hg]
      subst hS
      have h5 := ((hd.setOff false).setArm (-1) (by decide) (by decide)).setLives (D.lives + 1) (by omega)
      have ho5 := ((ho.setCell 2 (.bool false)).setCell 1 (.int .i64 (-1))).setCell 3 (.int .i64 ((D.lives + 1 : Nat) : Int))
      rw [show ((D.lives + 1 : Nat) : Int) = (D.lives : Int) + 1 by omega] at h5 ho5
      obtain ⟨c0, c1, c2, c3, c4, cf⟩ := hd.cell
      have c3' : wr.cell? ⟨d, 3, none⟩ = some (.int .i64 (D.lives : Int)) := c3
      clear hall c3
      go_wp2_with fail
      go_end0
      exact ⟨rfl, ⟨V', h5⟩, ho5⟩
    · have hd1 : DiskAt X w1 d b sw V' (D.cuts zs S) := by rcases hw1 with rfl | rfl; exact hd; exact hd.move (Below.refl _ _).drew
      have hit1 : w1.heap[w.heap.size]? = some (.mapIter (some b) 2 seen 2) := by rcases hw1 with rfl | rfl; exact Hit.out; exact Hit.out
      have ho1 : OnlyD d b w w1 := by rcases hw1 with rfl | rfl; exact ho; exact ho.trans (OnlyD.of_below (Below.refl _ _).drew)
      have hdW := hd1.iter hit1 (.mapIter (some b) 2 (seen.push (twoAt sw f)) 2)
      have hitW : (setBlock w1 w.heap.size (.mapIter (some b) 2 (seen.push (twoAt sw f)) 2)).heap[w.heap.size]? = some (.mapIter (some b) 2 (seen.push (twoAt sw f)) 2) := by
        simp [setBlock, heap_lt hit1]
      have hoW : OnlyD d b w (setBlock w1 w.heap.size (.mapIter (some b) 2 (seen.push (twoAt sw f)) 2)) :=
        ⟨ho1.os, ho1.tape, ho1.output, by simpa [setBlock] using ho1.size, fun k hk h1 h2 => by rw [block_other _ _ _ (by omega)]; exact ho1.block k hk h1 h2⟩
      have hent := two_entry (P := Try.prog) hf hitW hdW.map
      have Hlo : Hid (leftN wr w.heap.size = 2 - seen.size) := Lib.hid (by unfold leftN; rw [Hit.out])
      clear hd hw1 hd1 hit1 ho1 ho Hit
      generalize setBlock w1 w.heap.size (.mapIter (some b) 2 (seen.push (twoAt sw f)) 2) = W at *
      have hSf : S f = false := by rw [← Hs.out.1 f hf]; exact hfs
      obtain ⟨A1, c1, hx, hc1, hr1, hA1⟩ := hdW.file f hf
      have hv : (if f = 0 then V' 0 else V' 1) = fileV A1 ((D.cuts zs S).b f).length c1 ((D.cuts zs S).l f) := by rcases hf with rfl | rfl <;> simpa using hx
      have hbf : (D.cuts zs S).b f = D.b f := by simp [DS.cuts, hSf]
      have hlf : (D.cuts zs S).l f = D.l f := by simp [DS.cuts, hSf]
      rw [hbf, hlf] at hv
      rw [hbf] at hr1 hc1
      rw [hv] at hent hrun
      simp only [fileV] at hent hrun
      have hrW : Rd W A n (zs.map (Value.int .i64)) := hr _ hoW
      have hla := h.ok.last f
      have hsz := h.ok.size f
      clear hx hv hbf hlf
      obtain ⟨d0, d1, d2, d3, d4, df⟩ := hdW.cell
      have hltW := hdW.lt
      by_cases hfn : f < n
      · obtain ⟨F, hF⟩ : ∃ F : Nat, f = (F : Int) := ⟨f.toNat, by rcases hf with rfl | rfl <;> rfl⟩
        obtain ⟨ad, u, rfl, hu, hcell⟩ := hrW.at_ (show F < n by omega)
        rw [List.getElem?_map] at hu
        obtain ⟨z, hzF, rfl⟩ := Option.map_eq_some_iff.1 hu
        have hzb := hz z (List.mem_of_getElem? hzF)
        obtain ⟨q, hq⟩ : ∃ q : Nat, min (max z 0) (((D.b f).length : Int) - (D.l f : Int)) = q := ⟨(min (max z 0) (((D.b f).length : Int) - (D.l f : Int))).toNat, by omega⟩
        have hnew : newL D zs f = D.l f + q := by
          unfold newL
          rw [hF, Int.toNat_natCast, List.getD_eq_getElem?_getD, hzF, ← hF]
          simp only [Option.getD_some]
          omega
        have hmx := fun W => run_max2 (P := Try.prog) #[3, 3] 3 z 0 W
        have hmn := fun W => run_min2 (P := Try.prog) #[3, 3] 3 (max z 0) (((D.b f).length : Int) - (D.l f : Int)) W
        rw [hq] at hmn
        have hbY := (Below.refl W.heap.size W).alloc (Nat.le_refl _) (.cells #[.slice A1 (D.b f).length c1, .int .i64 (D.l f : Int)] 69)
        have xY := alloc_new W (.cells #[.slice A1 (D.b f).length c1, .int .i64 (D.l f : Int)] 69) _ rfl
        have y0 : (W.alloc (.cells #[.slice A1 (D.b f).length c1, .int .i64 (D.l f : Int)] 69)).cell? ⟨W.heap.size, 0, none⟩ = some (.slice A1 (D.b f).length c1) := by rw [cell_row xY]; rfl
        have y1 : (W.alloc (.cells #[.slice A1 (D.b f).length c1, .int .i64 (D.l f : Int)] 69)).cell? ⟨W.heap.size, 1, none⟩ = some (.int .i64 (D.l f : Int)) := by rw [cell_row xY]; rfl
        have hcellY : (W.alloc (.cells #[.slice A1 (D.b f).length c1, .int .i64 (D.l f : Int)] 69)).cell? (ad.add F) = some (.int .i64 z) := (hbY.cell (World.block_lt_of_cell? W _ hcell)).trans hcell
        have hqb : (q : Int) ≤ ((D.b f).length : Int) - (D.l f : Int) := by omega
        generalize (D.b f).length = m at *
        generalize D.l f = l at *
        have hF0 : (F : Int) < n := by omega
        subst hF
        clear hu hq
        go_wp2_with fail
        generalize hY : W.alloc (.cells #[.slice A1 m c1, .int .i64 (l : Int)] 69) = Y at *
        go_quiet (fail)
        have hbq : Below W.heap.size W (Y.drewN nq) := below_drewN hbY nq
        have xq : (Y.drewN nq).heap[W.heap.size]? = some (.cells #[.slice A1 m c1, .int .i64 (l : Int)] 69 (0, 0)) := xY
        clear y0 y1 hcellY hbY xY hmx hmn hcell hY
        generalize Y.drewN nq = Y2 at *
        obtain ⟨A2, hcut, hA2, hA3⟩ := cut_to (P := Try.prog) Try.underlying35 (size_of_info info_u8d) A1 m c1 (l + q) (by omega) hc1
        rw [show ((l + q : Nat) : Int) = (l : Int) + (q : Int) by omega] at hcut
        have x3 := set_row xq 1 (.int .i64 ((l : Int) + (q : Int)))
        have x4 := set_row x3 0 (.slice A2 (l + q) (l + q))
        have y0 : Y2.cell? ⟨W.heap.size, 0, none⟩ = some (.slice A1 m c1) := by rw [cell_row xq]; rfl
        have y1 : Y2.cell? ⟨W.heap.size, 1, none⟩ = some (.int .i64 (l : Int)) := by rw [cell_row xq]; rfl
        have y2 := fun j => free_row xq j
        have z0 : (Y2.setCell ⟨W.heap.size, 1, none⟩ (.int .i64 ((l : Int) + (q : Int)))).cell? ⟨W.heap.size, 0, none⟩ = some (.slice A1 m c1) := by rw [cell_row x3]; rfl
        have z1 : (Y2.setCell ⟨W.heap.size, 1, none⟩ (.int .i64 ((l : Int) + (q : Int)))).cell? ⟨W.heap.size, 1, none⟩ = some (.int .i64 ((l : Int) + (q : Int))) := by rw [cell_row x3]; rfl
        have z2 := fun j => free_row x3 j
        have hbU := (hbq.setCell (p := ⟨W.heap.size, 1, none⟩) (Nat.le_refl _) (.int .i64 ((l : Int) + (q : Int)))).setCell (p := ⟨W.heap.size, 0, none⟩) (Nat.le_refl _) (.slice A2 (l + q) (l + q))
        have hdU := hdW.move hbU
        have hrU := (hA2 _ _ hr1).below hbU
        have hAU : ∀ ad, A2 = some ad → ad.block ≠ d ∧ ad.block ≠ b ∧ ad.block < ((Y2.setCell ⟨W.heap.size, 1, none⟩ (.int .i64 ((l : Int) + (q : Int)))).setCell ⟨W.heap.size, 0, none⟩ (.slice A2 (l + q) (l + q))).heap.size ∧ X ad.block := fun ad e => by
          obtain ⟨a0, e0, eb⟩ := hA3 ad e
          have q := hA1 a0 e0
          rw [eb]; exact ⟨q.1, q.2.1, Nat.lt_of_lt_of_le q.2.2.1 hbU.size, q.2.2.2⟩
        have hoU := hoW.trans (OnlyD.of_below (d := d) (b := b) hbU)
        have hitU := (hbU.block w.heap.size (heap_lt hitW)).trans hitW
        have u0 : ((Y2.setCell ⟨W.heap.size, 1, none⟩ (.int .i64 ((l : Int) + (q : Int)))).setCell ⟨W.heap.size, 0, none⟩ (.slice A2 (l + q) (l + q))).cell? ⟨W.heap.size, 0, none⟩ = some (.slice A2 (l + q) (l + q)) := by rw [cell_row x4]; rfl
        have u1 : ((Y2.setCell ⟨W.heap.size, 1, none⟩ (.int .i64 ((l : Int) + (q : Int)))).setCell ⟨W.heap.size, 0, none⟩ (.slice A2 (l + q) (l + q))).cell? ⟨W.heap.size, 1, none⟩ = some (.int .i64 ((l : Int) + (q : Int))) := by rw [cell_row x4]; rfl
        go_wp2_with fail
        clear hF0
        generalize (F : Int) = f at *
        clear xq x3 x4 z0 z1 z2 y0 y1 y2 hbU hcut hA2 hr1 hrW hbq
        generalize ((Y2.setCell ⟨W.heap.size, 1, none⟩ (.int .i64 ((l : Int) + (q : Int)))).setCell ⟨W.heap.size, 0, none⟩ (.slice A2 (l + q) (l + q))) = U at *
        rw [show (l : Int) + (q : Int) = ((l + q : Nat) : Int) by omega] at *
        generalize hL : l + q = L at *
        have hLm : L ≤ m := by omega
        obtain ⟨f0, f1, f2, f3, f4, ff⟩ := hdU.cell
        go_still_tail 6, (by kernel_rfl)
        change wpList _ _ _ _ _ U.drew
        have h4 := hdU.move ((Below.refl U.heap.size U).drew)
        have hr4 := hrU.below ((Below.refl U.heap.size U).drew)
        have ho4 := hoU.trans (OnlyD.of_below (d := d) (b := b) ((Below.refl U.heap.size U).drew))
        have hit4 : U.drew.heap[w.heap.size]? = some (.mapIter (some b) 2 (seen.push (twoAt sw f)) 2) := hitU
        have hput := two_put (P := Try.prog) Try.underlying70 Try.underlying3 h4.map (fileV A2 L L L) hf
        have h5 := h4.put hf hr4 (Nat.le_refl L) hAU (Nat.le_refl L) (by omega)
        have ho5 := ho4.setBlock h4.map (.map (twoEs sw (if f = 0 then fileV A2 L L L else V' 0) (if f = 0 then V' 1 else fileV A2 L L L)) 2)
        have hcp := DS.cuts_put (D := D) zs S hSf
        rw [hnew] at hcp
        rw [hcp] at h5
        have hit5 := (block_other U.drew b (.map (twoEs sw (if f = 0 then fileV A2 L L L else V' 0) (if f = 0 then V' 1 else fileV A2 L L L)) 2) (show w.heap.size ≠ b by have := h.lt.2; omega)).trans hit4
        have Hit5 := Lib.hid hit5
        have HS2 : Hid ((∀ g, g = 0 ∨ g = 1 → (seen.push (twoAt sw f)).contains (twoAt sw g) = (S g || decide (g = f))) ∧ ∀ g, ¬ (g = 0 ∨ g = 1) → (S g || decide (g = f)) = false) := Lib.hid (by
          refine ⟨fun g hg => ?_, fun g hg => ?_⟩
          · rw [← Hs.out.1 g hg, Array.contains_push]
            congr 1
            rcases hg with rfl | rfl <;> rcases hf with rfl | rfl <;> cases sw <;> simp [twoAt]
          · rw [Hs.out.2 g hg]
            simp
            rintro rfl
            exact hg hf)
        have HN2 : Hid ((seen.push (twoAt sw f)).size = (if (S 0 || decide ((0 : Int) = f)) then 1 else 0) + (if (S 1 || decide ((1 : Int) = f)) then 1 else 0)) := Lib.hid (by
          have := Hn.out
          rw [Array.size_push, this]
          rcases hf with rfl | rfl <;> simp [hSf] <;> omega)
        clear h4 hr4 ho4 hit4 hit5 hdU hrU hoU hAU u0 u1 f0 f1 f2 f3 f4 ff
        generalize setBlock U.drew b (.map (twoEs sw (if f = 0 then fileV A2 L L L else V' 0) (if f = 0 then V' 1 else fileV A2 L L L)) 2) = Z at *
        go_wp2_with fail
        go_roundw
        case rel => exact ⟨fun g => S g || decide (g = f), _, _, h5, Hit5, HS2, HN2, ho5⟩
        case measure =>
          have e1 := Hlo.out
          have e2 : leftN Z w.heap.size = 2 - (seen.push (twoAt sw f)).size := by unfold leftN; rw [Hit5.out]
          have e3 := Hn.out
          rw [e1, e2, Array.size_push]
          rcases hf with rfl | rfl <;> simp [hSf] at e3 <;> split at e3 <;> omega
      · have hnew : newL D zs f = D.l f := by
          have hlen := (hr w (OnlyD.refl _ _ _)).1
          rw [List.length_map] at hlen
          unfold newL
          rw [List.getD_eq_getElem?_getD, List.getElem?_eq_none (by omega)]
          simp
        obtain ⟨A2, hcut, hA2, hA3⟩ := cut_to (P := Try.prog) Try.underlying35 (size_of_info info_u8d) A1 (D.b f).length c1 (D.l f) hla hc1
        generalize (D.b f).length = m at *
        generalize D.l f = l at *
        have hbU := (Below.refl W.heap.size W).alloc (Nat.le_refl _) (.cells #[.slice A2 l l, .int .i64 (l : Int)] 69)
        have hdU := hdW.move hbU
        have hrU := (hA2 _ _ hr1).below hbU
        have hAU : ∀ ad, A2 = some ad → ad.block ≠ d ∧ ad.block ≠ b ∧ ad.block < (W.alloc (.cells #[.slice A2 l l, .int .i64 (l : Int)] 69)).heap.size ∧ X ad.block := fun ad e => by
          obtain ⟨a0, e0, eb⟩ := hA3 ad e
          have q := hA1 a0 e0
          rw [eb]; exact ⟨q.1, q.2.1, Nat.lt_of_lt_of_le q.2.2.1 hbU.size, q.2.2.2⟩
        have hoU := hoW.trans (OnlyD.of_below (d := d) (b := b) hbU)
        have xU := alloc_new W (.cells #[.slice A2 l l, .int .i64 (l : Int)] 69) _ rfl
        have y0 : (W.alloc (.cells #[.slice A2 l l, .int .i64 (l : Int)] 69)).cell? ⟨W.heap.size, 0, none⟩ = some (.slice A2 l l) := by rw [cell_row xU]; rfl
        have y1 : (W.alloc (.cells #[.slice A2 l l, .int .i64 (l : Int)] 69)).cell? ⟨W.heap.size, 1, none⟩ = some (.int .i64 (l : Int)) := by rw [cell_row xU]; rfl
        have hitU := (hbU.block w.heap.size (heap_lt hitW)).trans hitW
        go_wp2_with fail
        clear xU hbU hcut hA2 hr1 hrW
        generalize W.alloc (.cells #[.slice A2 l l, .int .i64 (l : Int)] 69) = U at *
        obtain ⟨f0, f1, f2, f3, f4, ff⟩ := hdU.cell
        go_still_tail 6, (by kernel_rfl)
        change wpList _ _ _ _ _ U.drew
        have h4 := hdU.move ((Below.refl U.heap.size U).drew)
        have hr4 := hrU.below ((Below.refl U.heap.size U).drew)
        have ho4 := hoU.trans (OnlyD.of_below (d := d) (b := b) ((Below.refl U.heap.size U).drew))
        have hit4 : U.drew.heap[w.heap.size]? = some (.mapIter (some b) 2 (seen.push (twoAt sw f)) 2) := hitU
        have hput := two_put (P := Try.prog) Try.underlying70 Try.underlying3 h4.map (fileV A2 l l l) hf
        have h5 := h4.put hf hr4 (Nat.le_refl l) hAU (Nat.le_refl l) (by omega)
        have ho5 := ho4.setBlock h4.map (.map (twoEs sw (if f = 0 then fileV A2 l l l else V' 0) (if f = 0 then V' 1 else fileV A2 l l l)) 2)
        have hcp := DS.cuts_put (D := D) zs S hSf
        rw [hnew] at hcp
        rw [hcp] at h5
        have hit5 := (block_other U.drew b (.map (twoEs sw (if f = 0 then fileV A2 l l l else V' 0) (if f = 0 then V' 1 else fileV A2 l l l)) 2) (show w.heap.size ≠ b by have := h.lt.2; omega)).trans hit4
        have Hit5 := Lib.hid hit5
        have HS2 : Hid ((∀ g, g = 0 ∨ g = 1 → (seen.push (twoAt sw f)).contains (twoAt sw g) = (S g || decide (g = f))) ∧ ∀ g, ¬ (g = 0 ∨ g = 1) → (S g || decide (g = f)) = false) := Lib.hid (by
          refine ⟨fun g hg => ?_, fun g hg => ?_⟩
          · rw [← Hs.out.1 g hg, Array.contains_push]
            congr 1
            rcases hg with rfl | rfl <;> rcases hf with rfl | rfl <;> cases sw <;> simp [twoAt]
          · rw [Hs.out.2 g hg]
            simp
            rintro rfl
            exact hg hf)
        have HN2 : Hid ((seen.push (twoAt sw f)).size = (if (S 0 || decide ((0 : Int) = f)) then 1 else 0) + (if (S 1 || decide ((1 : Int) = f)) then 1 else 0)) := Lib.hid (by
          have := Hn.out
          rw [Array.size_push, this]
          rcases hf with rfl | rfl <;> simp [hSf] <;> omega)
        clear h4 hr4 ho4 hit4 hit5 hdU hrU hoU hAU y0 y1 f0 f1 f2 f3 f4 ff
        generalize setBlock U.drew b (.map (twoEs sw (if f = 0 then fileV A2 l l l else V' 0) (if f = 0 then V' 1 else fileV A2 l l l)) 2) = Z at *
        go_wp2_with fail
        go_roundw
        case rel => exact ⟨fun g => S g || decide (g = f), _, _, h5, Hit5, HS2, HN2, ho5⟩
        case measure =>
          have e1 := Hlo.out
          have e2 : leftN Z w.heap.size = 2 - (seen.push (twoAt sw f)).size := by unfold leftN; rw [Hit5.out]
          have e3 := Hn.out
          rw [e1, e2, Array.size_push]
          rcases hf with rfl | rfl <;> simp [hSf] at e3 <;> split at e3 <;> omega
end Go.Proofs.Ythcajaadbdiggaa
