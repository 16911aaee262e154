/- Contract of Copy. -/
import Derived.Test.YtafheojankmniaaDiskNew
import Derived.Test.YtafheojankmniaaDiskPower
namespace Go.Proofs.Ytafheojankmniaa
open Go.RowKit
open Go.ChangeMaps (setBlock heap_setBlock_same heap_setBlock_other)
variable {X : Nat → Prop}

/-- what the copy's map holds, some keys being done -/
def EsOk (S : Int → Bool) (V : Int → Value) (es : Array MapEntry) : Prop :=
  (S 0 = false ∧ S 1 = false ∧ es = #[]) ∨ (∃ f : Int, (f = 0 ∨ f = 1) ∧ S f = true ∧ S (1 - f) = false ∧ es = #[⟨.int .i64 f, V f, 0⟩]) ∨ (S 0 = true ∧ S 1 = true ∧ ∃ sw, es = twoEs sw (V 0) (V 1))
theorem EsOk.find {S : Int → Bool} {V : Int → Value} {es : Array MapEntry} (h : EsOk S V es) {f : Int} (hf : f = 0 ∨ f = 1) (hS : S f = false) : Instr.findNow (.int .i64) (.int .i64 f) es.toList 0 = some none := by
  rcases h with ⟨_, _, rfl⟩ | ⟨g, hg, h1, h2, rfl⟩ | ⟨h0, h1, _⟩
  · rfl
  · have hne : g ≠ f := by rintro rfl; rw [h1] at hS; cases hS
    rcases hf with rfl | rfl <;> rcases hg with rfl | rfl <;> first | exact absurd rfl hne | simp [Instr.findNow, Instr.sameNow]
  · rcases hf with rfl | rfl
    · rw [h0] at hS; cases hS
    · rw [h1] at hS; cases hS
theorem EsOk.push {S : Int → Bool} {V : Int → Value} {es : Array MapEntry} (h : EsOk S V es) {f : Int} (hf : f = 0 ∨ f = 1) (hS : S f = false) (v : Value) :
    EsOk (fun g => S g || decide (g = f)) (putV V f v) (es.push ⟨.int .i64 f, v, es.size⟩) := by
  rcases h with ⟨h0, h1, rfl⟩ | ⟨g, hg, h1, h2, rfl⟩ | ⟨h0, h1, _⟩
  · refine .inr (.inl ⟨f, hf, by simp, ?_, ?_⟩)
    · rcases hf with rfl | rfl <;> simp [h0, h1]
    · simp [putV]
  · have hne : g ≠ f := by rintro rfl; rw [h1] at hS; cases hS
    refine .inr (.inr ?_)
    rcases hf with rfl | rfl <;> rcases hg with rfl | rfl <;> first | exact absurd rfl hne | skip
    · exact ⟨by simp, by simp [h1], true, by simp [twoEs, putV]⟩
    · exact ⟨by simp [h1], by simp, false, by simp [twoEs, putV]⟩
  · rcases hf with rfl | rfl
    · rw [h0] at hS; cases hS
    · rw [h1] at hS; cases hS
theorem EsOk.size_eq {S : Int → Bool} {V : Int → Value} {es : Array MapEntry} (h : EsOk S V es) (h0 : S 0 = true) (h1 : S 1 = true) : ∃ sw, es = twoEs sw (V 0) (V 1) := by
  rcases h with ⟨h, _, _⟩ | ⟨g, hg, h2, h3, rfl⟩ | ⟨_, _, h⟩
  · rw [h0] at h; cases h
  · rcases hg with rfl | rfl <;> simp [h0, h1] at h3
  · exact h
/-- the files that are done -/
def DoneF (w : World) (k : Nat) (S : Int → Bool) (V : Int → Value) (D : DS) : Prop :=
  ∀ f, f = 0 ∨ f = 1 → S f = true → ∃ A c, V f = fileV A (D.b f).length c (D.l f) ∧ (D.b f).length ≤ c ∧ Rd w A (D.b f).length (ub (D.b f)) ∧ ∀ ad, A = some ad → k ≤ ad.block ∧ ad.block < w.heap.size
theorem DoneF.move {w w' : World} {k : Nat} {S : Int → Bool} {V : Int → Value} {D : DS} (h : DoneF w k S V D) (hm : ∀ g, k ≤ g → g < w.heap.size → w'.heap[g]? = w.heap[g]?) (hs : w.heap.size ≤ w'.heap.size) : DoneF w' k S V D := by
  intro f hf hS
  obtain ⟨A, c, h1, h2, h3, h4⟩ := h f hf hS
  exact ⟨A, c, h1, h2, h3.at_block (fun ad e => hm _ (h4 ad e).1 (h4 ad e).2), fun ad e => ⟨(h4 ad e).1, Nat.lt_of_lt_of_le (h4 ad e).2 hs⟩⟩
theorem DoneF.put {w : World} {k : Nat} {S : Int → Bool} {V : Int → Value} {D : DS} (h : DoneF w k S V D) {f : Int} {A : Option Addr} {c : Nat} (hc : (D.b f).length ≤ c) (hr : Rd w A (D.b f).length (ub (D.b f))) (hA : ∀ ad, A = some ad → k ≤ ad.block ∧ ad.block < w.heap.size) :
    DoneF w k (fun g => S g || decide (g = f)) (putV V f (fileV A (D.b f).length c (D.l f))) D := by
  intro g hg hS
  by_cases e : g = f
  · subst e
    exact ⟨A, c, by simp [putV], hc, hr, hA⟩
  · simp [e] at hS
    obtain ⟨A', c', h1, h2⟩ := h g hg hS
    exact ⟨A', c', by simp [putV, e, h1], h2⟩

set_option maxHeartbeats 1000000 in
theorem copy_calls (Y : Nat → Prop) (d b : Nat) (sw : Bool) (V : Int → Value) (D : DS) (w : World) (h : DiskAt X w d b sw V D) (hY : ∀ k, w.heap.size ≤ k → Y k) :
    Calls Try.prog 25 #[.pointer (some ⟨d, 0, none⟩)] w fun e w' => ∃ d2 b2 sw2 V2, e = .returned (.pointer (some ⟨d2, 0, none⟩)) ∧ DiskAt Y w' d2 b2 sw2 V2 D ∧ w.heap.size ≤ d2 ∧ w.heap.size ≤ b2 ∧ Below w.heap.size w w' := by
  have hno := none_calls d b sw V D w h
  obtain ⟨c0, c1, c2, c3, c4, cf⟩ := h.cell
  have hld := h.lt
  go_enter Try.func25, Try.ntmps25
  go_wp2_with fail
  refine hno.mono ?_
  rintro e w1 ⟨rfl, rfl⟩
  have hm := fun u => make_map u 49
  have hb1 := ((Below.refl w.heap.size w).alloc (Nat.le_refl _) (cellsOf (w.heap.size + 1) D)).alloc (by simp) (.map #[] 0)
  have x1 := alloc_old (o' := .map #[] 0) (alloc_new w (cellsOf (w.heap.size + 1) D) _ rfl)
  have x2 := alloc_new (w.alloc (cellsOf (w.heap.size + 1) D)) (.map #[] 0) (w.heap.size + 1) (by simp)
  have hsz : ((w.alloc (cellsOf (w.heap.size + 1) D)).alloc (.map #[] 0)).heap.size = w.heap.size + 2 := by simp
  have h2 := h.move hb1
  go_wp2_with fail
  change Oper.upon _ _ _ _ _ ((Sem.run Try.prog (Instr.range _ _) ((w.alloc (cellsOf (w.heap.size + 1) D)).alloc (.map #[] 0))).andThen _)
  clear c0 c1 c2 c3 c4 cf hm
  generalize (w.alloc (cellsOf (w.heap.size + 1) D)).alloc (.map #[] 0) = W0 at *
  rw [range_two W0 49 3 53 b Try.underlying49 h2.map]
  go_wp2_with fail
  have Hsz := Lib.hid hsz
  have hr0 : (W0.alloc (.mapIter (some b) 2 #[] 2)).heap[w.heap.size + 2]? = some (.mapIter (some b) 2 #[] 2) := alloc_new W0 _ _ hsz.symm
  have hbi : Below W0.heap.size W0 (W0.alloc (.mapIter (some b) 2 #[] 2)) := (Below.refl _ _).alloc (Nat.le_refl _) _
  have hd0 := h2.move hbi
  have y1 := alloc_old (o' := .mapIter (some b) 2 #[] 2) x1
  have y2 := alloc_old (o' := .mapIter (some b) 2 #[] 2) x2
  have hb2 := hb1.trans (hbi.mono hb1.size)
  have hs0 : w.heap.size + 3 ≤ (W0.alloc (.mapIter (some b) 2 #[] 2)).heap.size := by simp; omega
  clear hsz x1 x2 hbi hb1 h2
  go_loopw [] (fun wr => ∃ (S : Int → Bool) (seen : Array Nat) (V' : Int → Value) (es : Array MapEntry), DiskAt X wr d b sw V D ∧ Hid (wr.heap[w.heap.size + 2]? = some (.mapIter (some b) 2 seen 2)) ∧ Hid ((∀ f, f = 0 ∨ f = 1 → seen.contains (twoAt sw f) = S f) ∧ ∀ f, ¬ (f = 0 ∨ f = 1) → S f = false) ∧ Hid (seen.size = (if S 0 then 1 else 0) + (if S 1 then 1 else 0)) ∧
    Hid (wr.heap[w.heap.size]? = some (cellsOf (w.heap.size + 1) D)) ∧ Hid (wr.heap[w.heap.size + 1]? = some (.map es es.size)) ∧ Hid (EsOk S V' es) ∧ DoneF wr (w.heap.size + 3) S V' D ∧ Below w.heap.size w wr ∧ w.heap.size + 3 ≤ wr.heap.size) (fun wr => leftN wr (w.heap.size + 2))
  case atStart => exact ⟨fun _ => false, #[], fun _ => .bool false, #[], hd0, hr0, ⟨fun f _ => by simp, fun _ _ => rfl⟩, rfl, y1, y2, .inl ⟨rfl, rfl, rfl⟩, (fun _ _ h => by cases h), hb2, hs0⟩
  case round =>
    clear hd0 hr0 y1 y2 hb2 hs0
    obtain ⟨S, seen, V', es, hd, Hit, Hs, Hn, H1, H2, He, hdone, hbel, hsw⟩ := hrel
    rcases two_next (P := Try.prog) (ty := 0) Hit.out hd.map (by decide) with ⟨hall, hrun⟩ | ⟨f, hf, hfs, w1, hw1, hrun⟩
    · have s0 : S 0 = true := by rw [← Hs.out.1 0 (.inl rfl)]; exact hall 0 (.inl rfl)
      have s1 : S 1 = true := by rw [← Hs.out.1 1 (.inr rfl)]; exact hall 1 (.inr rfl)
      obtain ⟨sw2, hes⟩ := He.out.size_eq s0 s1
      have hm2 := H2.out
      rw [hes, show (twoEs sw2 (V' 0) (V' 1)).size = 2 by cases sw2 <;> rfl] at hm2
      have hfin : DiskAt Y wr w.heap.size (w.heap.size + 1) sw2 V' D := ⟨H1.out, hm2, fun f hf => by
        obtain ⟨A, c, e1, e2, e3, e4⟩ := hdone f hf (by rcases hf with rfl | rfl <;> assumption)
        exact ⟨A, c, e1, e2, e3, fun ad e => by have := e4 ad e; exact ⟨by omega, by omega, this.2, hY _ (by omega)⟩⟩, h.ok⟩
      clear hall hm2 hdone
      go_wp2_with fail
      go_ret
      exact ⟨_, _, sw2, V', rfl, hfin, Nat.le_refl _, Nat.le_succ _, hbel⟩
    · have hd1 : DiskAt X w1 d b sw V D := by rcases hw1 with rfl | rfl; exact hd; exact hd.move (Below.refl _ _).drew
      have hit1 : w1.heap[w.heap.size + 2]? = some (.mapIter (some b) 2 seen 2) := by rcases hw1 with rfl | rfl; exact Hit.out; exact Hit.out
      have hbl1 : Below w.heap.size w w1 := by rcases hw1 with rfl | rfl; exact hbel; exact hbel.drew
      have hp1 : w1.heap = wr.heap := by rcases hw1 with rfl | rfl <;> rfl
      have hdW := hd1.iter hit1 (.mapIter (some b) 2 (seen.push (twoAt sw f)) 2)
      have hitW : (setBlock w1 (w.heap.size + 2) (.mapIter (some b) 2 (seen.push (twoAt sw f)) 2)).heap[w.heap.size + 2]? = some (.mapIter (some b) 2 (seen.push (twoAt sw f)) 2) := by
        simp [setBlock, heap_lt hit1]
      have hothW : ∀ k, k ≠ w.heap.size + 2 → (setBlock w1 (w.heap.size + 2) (.mapIter (some b) 2 (seen.push (twoAt sw f)) 2)).heap[k]? = wr.heap[k]? := fun k hk => by rw [block_other _ _ _ hk, hp1]
      have hszW : (setBlock w1 (w.heap.size + 2) (.mapIter (some b) 2 (seen.push (twoAt sw f)) 2)).heap.size = wr.heap.size := by simp [setBlock, hp1]
      have hblW : Below w.heap.size w (setBlock w1 (w.heap.size + 2) (.mapIter (some b) 2 (seen.push (twoAt sw f)) 2)) :=
        ⟨hbl1.os, hbl1.tape, hbl1.output, by simpa [setBlock] using hbl1.size, fun k hk => by rw [block_other _ _ _ (by omega)]; exact hbl1.block k hk⟩
      have hent := two_entry (P := Try.prog) hf hitW hdW.map
      have Hlo : Hid (leftN wr (w.heap.size + 2) = 2 - seen.size) := Lib.hid (by unfold leftN; rw [Hit.out])
      clear hd hw1 hd1 hit1 hbl1 Hit hp1 hbel
      generalize setBlock w1 (w.heap.size + 2) (.mapIter (some b) 2 (seen.push (twoAt sw f)) 2) = W at *
      have H1W := Lib.hid ((hothW w.heap.size (by omega)).trans H1.out)
      have H2W := Lib.hid ((hothW (w.heap.size + 1) (by omega)).trans H2.out)
      have hdoneW := hdone.move (w' := W) (fun g h1 _ => hothW g (by omega)) (by omega)
      have hswW : w.heap.size + 3 ≤ W.heap.size := by omega
      have HszW := Lib.hid hszW
      clear hothW hszW hdone H1 H2 hsw
      have hSf : S f = false := by rw [← Hs.out.1 f hf]; exact hfs
      obtain ⟨A1, c1, hx, hc1, hr1, hA1⟩ := hdW.file f hf
      have hv : (if f = 0 then V 0 else V 1) = fileV A1 (D.b f).length c1 (D.l f) := by rcases hf with rfl | rfl <;> simpa using hx
      rw [hv] at hent hrun
      simp only [fileV] at hent hrun
      have hla := hdW.ok.last f
      have hsz := hdW.ok.size f
      have Hf := Lib.hid hf
      clear hx hv hA1 hfs
      have hfind := He.out.find hf hSf
      have hpush := He.out.push hf hSf
      generalize hn : (D.b f).length = n at *
      generalize hl : D.l f = l at *
      have hbT := (Below.refl W.heap.size W).alloc (Nat.le_refl _) (.cells #[.slice A1 n c1, .int .i64 (l : Int)] 53)
      have hbE := hbT.alloc hbT.size (.cells #[] 5)
      have x3 := alloc_old (o' := .cells #[] 5) (alloc_new W (.cells #[.slice A1 n c1, .int .i64 (l : Int)] 53) _ rfl)
      have y0 : ((W.alloc (.cells #[.slice A1 n c1, .int .i64 (l : Int)] 53)).alloc (.cells #[] 5)).cell? ⟨W.heap.size, 0, none⟩ = some (.slice A1 n c1) := by rw [cell_row x3]; rfl
      have hown := own_empty (W.alloc (.cells #[.slice A1 n c1, .int .i64 (l : Int)] 53)) (base := W.heap.size + 1) (by simp) 5
      rw [show (W.alloc (.cells #[.slice A1 n c1, .int .i64 (l : Int)] 53)).heap.size = W.heap.size + 1 by simp] at hown
      have hrE := hr1.below hbE
      have Hn4 := Lib.hid hn
      have Hl4 := Lib.hid hl
      clear hn hl
      go_wp2_with (at_builtin; refine wpList_app rfl _ _ _ rfl 5 (.int .u8 0) 1 Try.underlying22 info_u8d rfl (by decide) (W.heap.size + 1) rfl hown rfl hrE (ub_one _) ?_ ?_ ?_)
      case _ => omega
      case _ => simp
      case _ =>
        intro v' w4 hown4 hg4 _
        have hblt := fun k hk => hown4.lt k hk
        obtain ⟨A4, c4, rfl, hc4, hrd4⟩ := own_rd hown4
        have hb4 := hbE.grown hg4 hbE.size (fun k hk => by have := (hown.lt k hk).1; omega)
        have x4 := (hg4.block W.heap.size (heap_lt x3) (by simp [Value.ownBlock])).trans x3
        have hA4 : ∀ ad, A4 = some ad → W.heap.size + 1 ≤ ad.block ∧ ad.block < w4.heap.size := fun ad e => by subst e; exact hblt _ rfl
        have z1 := free_row x4 0
        have z0 : w4.cell? ⟨W.heap.size, 0, none⟩ = some (.slice A1 n c1) := by rw [cell_row x4]; rfl
        have hbU := hb4.setCell (p := ⟨W.heap.size, 0, none⟩) (Nat.le_refl _) (.slice A4 n c4)
        have x5 := set_row x4 0 (.slice A4 n c4)
        have u0 : (w4.setCell ⟨W.heap.size, 0, none⟩ (.slice A4 n c4)).cell? ⟨W.heap.size, 0, none⟩ = some (.slice A4 n c4) := by rw [cell_row x5]; rfl
        have u1 : (w4.setCell ⟨W.heap.size, 0, none⟩ (.slice A4 n c4)).cell? ⟨W.heap.size, 1, none⟩ = some (.int .i64 (l : Int)) := by rw [cell_row x5]; rfl
        have hdU := hdW.move hbU
        have H1U := Lib.hid ((hbU.block w.heap.size (by omega)).trans H1W.out)
        have H2U := Lib.hid ((hbU.block (w.heap.size + 1) (by omega)).trans H2W.out)
        have hitU := Lib.hid ((hbU.block (w.heap.size + 2) (by omega)).trans hitW)
        have hdoneU := hdoneW.move (w' := w4.setCell ⟨W.heap.size, 0, none⟩ (.slice A4 n c4)) (fun g _ hg => hbU.block g hg) hbU.size
        have hrU := hrd4.at_block (w' := w4.setCell ⟨W.heap.size, 0, none⟩ (.slice A4 n c4)) (fun ad e => Below.heap_setCell _ _ _ _ (by have := hA4 ad e; simp; omega))
        have hAU : ∀ ad, A4 = some ad → w.heap.size + 3 ≤ ad.block ∧ ad.block < (w4.setCell ⟨W.heap.size, 0, none⟩ (.slice A4 n c4)).heap.size := fun ad e => by have := hA4 ad e; simp [World.setCell]; omega
        have m0 : (w4.setCell ⟨W.heap.size, 0, none⟩ (.slice A4 n c4)).cell? ⟨w.heap.size, 0, none⟩ = some (.map (some (w.heap.size + 1))) := by rw [cell_row H1U.out]; rfl
        have hblU := hblW.trans (hbU.mono hblW.size)
        have hswU : w.heap.size + 3 ≤ (w4.setCell ⟨W.heap.size, 0, none⟩ (.slice A4 n c4)).heap.size := Nat.le_trans hswW hbU.size
        have hltU := hdU.lt
        clear hown hown4 hg4 hblt hb4 hbE hbT x3 x4 hrE hrd4 hA4 y0 hdW hitW hdoneW H1W H2W hblW hr1 hrun hent
        have hput := put_new (P := Try.prog) Try.underlying49 Try.underlying3 (w := w4.setCell ⟨W.heap.size, 0, none⟩ (.slice A4 n c4)) (b := w.heap.size + 1) (cl := es.size) H2U.out f (fileV A4 n c4 l) hfind
        go_wp2_with fail
        clear x5 z0 z1 hbU u0 u1 m0 hput
        generalize w4.setCell ⟨W.heap.size, 0, none⟩ (.slice A4 n c4) = U at *
        have h3 := heap_setBlock_same H2U.out (.map (es.push ⟨.int .i64 f, fileV A4 n c4 l, es.size⟩) (es.size + 1))
        have hoth : ∀ k, k ≠ w.heap.size + 1 → (setBlock U (w.heap.size + 1) (.map (es.push ⟨.int .i64 f, fileV A4 n c4 l, es.size⟩) (es.size + 1))).heap[k]? = U.heap[k]? := fun k hk => block_other _ _ _ hk
        have hszZ : (setBlock U (w.heap.size + 1) (.map (es.push ⟨.int .i64 f, fileV A4 n c4 l, es.size⟩) (es.size + 1))).heap.size = U.heap.size := by simp [setBlock]
        have hblZ : Below w.heap.size w (setBlock U (w.heap.size + 1) (.map (es.push ⟨.int .i64 f, fileV A4 n c4 l, es.size⟩) (es.size + 1))) :=
          ⟨hblU.os, hblU.tape, hblU.output, by simpa [setBlock] using hblU.size, fun k hk => by rw [hoth k (by omega)]; exact hblU.block k hk⟩
        have hdZ : DiskAt X (setBlock U (w.heap.size + 1) (.map (es.push ⟨.int .i64 f, fileV A4 n c4 l, es.size⟩) (es.size + 1))) d b sw V D := h.move hblZ
        generalize setBlock U (w.heap.size + 1) (.map (es.push ⟨.int .i64 f, fileV A4 n c4 l, es.size⟩) (es.size + 1)) = Z at *
        have HS2 : Hid ((∀ g, g = 0 ∨ g = 1 → (seen.push (twoAt sw f)).contains (twoAt sw g) = (S g || decide (g = f))) ∧ ∀ g, ¬ (g = 0 ∨ g = 1) → (S g || decide (g = f)) = false) := Lib.hid (by
          refine ⟨fun g hg => ?_, fun g hg => ?_⟩
          · rw [← Hs.out.1 g hg, Array.contains_push]
            congr 1
            rcases hg with rfl | rfl <;> rcases hf with rfl | rfl <;> cases sw <;> simp [twoAt]
          · rw [Hs.out.2 g hg]
            simp
            rintro rfl
            exact hg hf)
        have HN2 : Hid ((seen.push (twoAt sw f)).size = (if (S 0 || decide ((0 : Int) = f)) then 1 else 0) + (if (S 1 || decide ((1 : Int) = f)) then 1 else 0)) := Lib.hid (by
          have := Hn.out
          rw [Array.size_push, this]
          rcases hf with rfl | rfl <;> simp [hSf] <;> omega)
        have hit5 := (hoth (w.heap.size + 2) (by omega)).trans hitU.out
        have Hit5 := Lib.hid hit5
        have h1Z := Lib.hid ((hoth w.heap.size (by omega)).trans H1U.out)
        have h2Z := Lib.hid h3
        rw [← Array.size_push (xs := es) (⟨.int .i64 f, fileV A4 n c4 l, es.size⟩ : MapEntry)] at h2Z
        have hE := Lib.hid (hpush (fileV A4 n c4 l))
        have hdoneZ := (hdoneU.move (w' := Z) (fun g hg _ => hoth g (by omega)) (by omega)).put (f := f) (A := A4) (c := c4) (by rw [Hn4.out]; exact hc4) (by rw [Hn4.out]; exact hrU.at_block (fun ad e => hoth _ (by have := hAU ad e; omega))) (fun ad e => by have := hAU ad e; omega)
        rw [Hn4.out, Hl4.out] at hdoneZ
        have hswZ : w.heap.size + 3 ≤ Z.heap.size := by omega
        clear hfind hpush h3 hoth hit5
        go_roundw
        case rel => exact ⟨fun g => S g || decide (g = f), _, _, _, hdZ, Hit5, HS2, HN2, h1Z, h2Z, hE, hdoneZ, hblZ, hswZ⟩
        case measure =>
          have e1 := Hlo.out
          have e2 : leftN Z (w.heap.size + 2) = 2 - (seen.push (twoAt sw f)).size := by unfold leftN; rw [Hit5.out]
          have e3 := Hn.out
          rw [e1, e2, Array.size_push]
          rcases hf with rfl | rfl <;> simp [hSf] at e3 <;> split at e3 <;> omega
end Go.Proofs.Ytafheojankmniaa
