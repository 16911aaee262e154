/- Contract of do, of the laws of disk. -/
import Derived.Test.YtafheojankmniaaDiskLaws
import Derived.Test.YtafheojankmniaaRef4Power
import Derived.Test.YtafheojankmniaaOpsArg
import Derived.Test.YtafheojankmniaaLaw0
import Derived.Test.YtafheojankmniaaSpoilK
import Derived.Deep.RegionHeld3
namespace Go.Proofs.Ytafheojankmniaa
open Go.RowKit

/-- nothing but some blocks is other, and blocks are new -/
structure OnlyS (S : Nat → Prop) (w w' : World) : Prop where
  os : w'.os = w.os
  tape : w'.tape = w.tape
  output : w'.output = w.output
  size : w.heap.size ≤ w'.heap.size
  block : ∀ k, k < w.heap.size → ¬ S k → w'.heap[k]? = w.heap[k]?
theorem OnlyS.refl (S : Nat → Prop) (w : World) : OnlyS S w w := ⟨rfl, rfl, rfl, Nat.le_refl _, fun _ _ _ => rfl⟩
theorem OnlyS.trans {S : Nat → Prop} {u v w : World} (h : OnlyS S u v) (k : OnlyS S v w) : OnlyS S u w :=
  ⟨k.os.trans h.os, k.tape.trans h.tape, k.output.trans h.output, Nat.le_trans h.size k.size, fun j hj h1 => (k.block j (Nat.lt_of_lt_of_le hj h.size) h1).trans (h.block j hj h1)⟩
theorem OnlyS.of_below {S : Nat → Prop} {w w' : World} (h : Below w.heap.size w w') : OnlyS S w w' := ⟨h.os, h.tape, h.output, h.size, fun k hk _ => h.block k hk⟩
theorem OnlyS.of_d {S : Nat → Prop} {d b : Nat} {w w' : World} (h : OnlyD d b w w') (hd : S d) (hb : S b) : OnlyS S w w' :=
  ⟨h.os, h.tape, h.output, h.size, fun k hk hs => h.block k hk (fun e => hs (e ▸ hd)) (fun e => hs (e ▸ hb))⟩
theorem OnlyS.of_blk {S : Nat → Prop} {g : Nat} {w w' : World} (h : OnlyBlk (some g) w w') (hg : S g) : OnlyS S w w' :=
  ⟨h.os, h.tape, h.output, Nat.le_of_eq h.size.symm, fun k _ hs => h.block k (fun e => by injection e with e; subst e; exact hs hg)⟩
theorem OnlyS.below {S : Nat → Prop} {base : Nat} {w w' : World} (h : OnlyS S w w') (hS : ∀ k, S k → base ≤ k) (hs : base ≤ w.heap.size) : Below base w w' :=
  ⟨h.os, h.tape, h.output, h.size, fun k hk => h.block k (by omega) (fun hk2 => by have := hS k hk2; omega)⟩

/-- what an operation does -/
def DS.arm (D : DS) (k : Int) : DS := { D with armed := max k (-1) }
def doOp (D : DS) (o : Op4) : DS :=
  if o.kind % 6 = 0 then (D.appR o.f o.b).1 else if o.kind % 6 = 1 then (D.syncR o.f).1 else if o.kind % 6 = 2 then (D.clearR o.f).1 else if o.kind % 6 = 3 then D else if o.kind % 6 = 4 then D.arm o.n else D.power o.keep
/-- disk, map and document's disk -/
abbrev S3 (d b r : Nat) : Nat → Prop := fun k => k = d ∨ k = b ∨ k = r

set_option maxHeartbeats 4000000 in
theorem do_append (d b r : Nat) (sw : Bool) (V : Int → Value) (D : DS) (o : Op4) (B : Option Addr) (cb : Nat) (K : Option Addr) (ck : Nat) (w : World) (hD : DiskAt (fun k => k ≠ r) w d b sw V D) (hR : RefAt w r D) (hrd : r ≠ d ∧ r ≠ b) (ho : o.Ok) (hlb : o.b.length ≤ 1000)
    (hB : ∀ w', OnlyS (S3 d b r) w w' → Rd w' B o.b.length (ub o.b)) (hs : D.steps < 1099511627776) (hk : o.kind % 6 = 0) :
    Calls Try.prog 20 #[.pointer (some ⟨d, 0, none⟩), .pointer (some ⟨r, 0, none⟩), opV o B cb K ck] w fun e w' => e = .returned (.bool true) ∧ (∃ V', DiskAt (fun k => k ≠ r) w' d b sw V' (D.appR o.f o.b).1) ∧ RefAt w' r (D.appR o.f o.b).1 ∧ OnlyS (S3 d b r) w w' := by
  have hpl := fun W => place_calls o.kind 6 W (by decide) (by decide) ho.kind.1 ho.kind.2
  rw [show o.kind % ((6 : Nat) : Int) = 0 from hk] at hpl
  go_enter Try.func20, Try.ntmps20
  go_wp2_with fail
  have hba := (Below.refl w.heap.size w).alloc (Nat.le_refl _) (.cells #[.int .i64 o.kind, .int .i64 o.f, .int .i64 o.n, .slice B o.b.length cb, .slice K o.keep.length ck] 38)
  have x0 := alloc_new w (.cells #[.int .i64 o.kind, .int .i64 o.f, .int .i64 o.n, .slice B o.b.length cb, .slice K o.keep.length ck] 38) _ rfl
  have hD1 := hD.move hba
  have hR1 := hR.move (hba.block r (heap_lt hR.cells))
  have ho1 := OnlyS.of_below (S := S3 d b r) hba
  have hlt := hD.lt
  have hltr := heap_lt hR.cells
  clear hD hR hba
  generalize w.alloc (.cells #[.int .i64 o.kind, .int .i64 o.f, .int .i64 o.n, .slice B o.b.length cb, .slice K o.keep.length ck] 38) = W at *
  refine (hpl W).mono ?_
  rintro e W' ⟨rfl, rfl⟩
  generalize hn : o.b.length = n at *
  generalize hxs : o.b = xs at *
  have hB1 := hB _ ho1
  have p3 : W.cell? ⟨w.heap.size, 3, none⟩ = some (.slice B n cb) := by rw [cell_row x0]; rfl
  go_wp2_with fail
  subst hn
  refine (twin_calls B cb xs W hB1 (by omega)).mono ?_
  rintro e w2 ⟨⟨g, rfl, hg, hT⟩, hb2⟩
  have hgl := heap_lt hT
  have hW := heap_lt x0
  have x2 := (hb2.block _ hW).trans x0
  have hD2 := (hD1.imp (Y := fun k => k ≠ r ∧ k ≠ g) (fun k hk h => ⟨h, by omega⟩)).move hb2
  have hR2 := hR1.move (hb2.block r (heap_lt hR1.cells))
  have ho2 := ho1.trans (OnlyS.of_below hb2)
  have hgr : g ≠ r := by have := heap_lt hR1.cells; omega
  have hgd : g ≠ d ∧ g ≠ b := by have := hD1.lt; omega
  have hgw : w.heap.size < g := by omega
  go_wp2_with fail
  have hdr := (Below.refl w2.heap.size w2).drew
  have hD3 := hD2.move hdr
  have hR3 := hR2.move (hdr.block r (heap_lt hR2.cells))
  have ho3 := ho2.trans (OnlyS.of_below hdr)
  have hT3 := (hdr.block g (heap_lt hT)).trans hT
  have x3 := (hdr.block _ (heap_lt x2)).trans x2
  have hB3 := hB _ ho3
  clear hD2 hR2 ho2 hT x2 hdr hD1 hR1 ho1 hb2 x0 hB1 p3
  go_region_held3 (fun U => U.cell? ⟨w.heap.size, 1, none⟩ = some (.int .i64 o.f) ∧ U.cell? ⟨w.heap.size, 3, none⟩ = some (.slice B xs.length cb) ∧ (convert 22 9 (.slice B xs.length cb)).run Try.prog U = .ok (.string (txt xs)) U)
    (exact ⟨by rw [cell_row x3]; rfl, by rw [cell_row x3]; rfl, run_str (P := Try.prog) (dst := 9) Try.underlying22 Try.underlying5 Try.underlying9 hB3 cb⟩)
    (first
      | (go_at_call 11
         refine (appR_calls o.f hD3 (twin_rd hT3) (by omega) (fun k hk => by have := heap_lt hT3; have := heap_lt hR3.cells; omega) hs).mono ?_
         rintro e w' ⟨rfl, ⟨V', hD'⟩, ho'⟩
         replace hR3 := hR3.move (ho'.block r (heap_lt hR3.cells) hrd.1 hrd.2)
         replace hT3 := (ho'.block g (heap_lt hT3) hgd.1 hgd.2).trans hT3
         replace x3 := (ho'.block _ (heap_lt x3) (by omega) (by omega)).trans x3
         replace ho3 := ho3.trans (OnlyS.of_d ho' (.inl rfl) (.inr (.inl rfl)))
         replace hB3 := hB _ ho3
         clear hD3
         have hD3 := hD')
      | (go_at_call 32
         refine (ref4app_calls r D o.f xs _ hR3 hs (by omega)).mono ?_
         rintro e w' ⟨rfl, hR', ho'⟩
         replace hD3 := hD3.frame ho'.size (fun k hk h => ho'.block k hk (by rcases h with h | h | h <;> first | omega | exact h.1) (by rcases h with h | h | h <;> first | omega | exact h.1))
         replace hT3 := (ho'.block g (heap_lt hT3) hgr hgr).trans hT3
         replace x3 := (ho'.block _ (heap_lt x3) (by omega) (by omega)).trans x3
         replace ho3 := ho3.trans (OnlyS.of_d ho' (.inr (.inr rfl)) (.inr (.inr rfl)))
         replace hB3 := hB _ ho3
         clear hR3
         have hR3 := hR')
      | (go_at_call 33
         refine (kept_calls g B cb xs _ hT3 hB3 (by omega)).mono ?_
         rintro e w' ⟨rfl, rfl⟩))
  all_goals
    go_wp2_with fail
    refine (spoil_row g xs.length (xs.length + 3) (twinCells xs).toArray _ hT3 (by simp [twinCells, ub_length]) (by omega) (by unfold maxLen; omega)).mono ?_
    rintro e w9 ⟨rfl, ho9⟩
    have hD9 := hD3.frame (Nat.le_of_eq ho9.size.symm) (fun k hk h => ho9.block k (fun e => by injection e with e; subst e; rcases h with h | h | h; exact hgd.1 h; exact hgd.2 h; exact h.2 rfl))
    have hR9 := hR3.move (ho9.block r (fun e => by injection e with e; exact hgr e.symm))
    have ho9 : OnlyS (S3 d b r) w w9 := ⟨ho9.os.trans ho3.os, ho9.tape.trans ho3.tape, ho9.output.trans ho3.output, by have := ho9.size; have := ho3.size; omega, fun k hk hs => (ho9.block k (fun e => by injection e with e; omega)).trans (ho3.block k hk hs)⟩
    have Hfin : Hid ((∃ V', DiskAt (fun k => k ≠ r) w9 d b sw V' (D.appR o.f xs).1) ∧ RefAt w9 r (D.appR o.f xs).1 ∧ OnlyS (S3 d b r) w w9) := Lib.hid ⟨⟨V', hD9.imp (Y := fun k => k ≠ r) (fun k _ h => h.1)⟩, hR9, ho9⟩
    clear hD9 hR9 ho9 hD3 hR3 hT3 x3 hB3 ho3
    go_wp2_with fail
    go_ret
    subst hxs
    exact ⟨rfl, Hfin.out⟩

set_option maxHeartbeats 4000000 in
theorem do_sync (d b r : Nat) (sw : Bool) (V : Int → Value) (D : DS) (o : Op4) (B : Option Addr) (cb : Nat) (K : Option Addr) (ck : Nat) (w : World) (hD : DiskAt (fun k => k ≠ r) w d b sw V D) (hR : RefAt w r D) (hrd : r ≠ d ∧ r ≠ b) (ho : o.Ok) (hs : D.steps < 1099511627776) (hk : o.kind % 6 = 1) :
    Calls Try.prog 20 #[.pointer (some ⟨d, 0, none⟩), .pointer (some ⟨r, 0, none⟩), opV o B cb K ck] w fun e w' => e = .returned (.bool true) ∧ (∃ V', DiskAt (fun k => k ≠ r) w' d b sw V' ((D.syncR o.f).1)) ∧ RefAt w' r ((D.syncR o.f).1) ∧ OnlyS (S3 d b r) w w' := by
  have hpl := fun W => place_calls o.kind 6 W (by decide) (by decide) ho.kind.1 ho.kind.2
  go_enter Try.func20, Try.ntmps20
  go_wp2_with fail
  have hba := (Below.refl w.heap.size w).alloc (Nat.le_refl _) (.cells #[.int .i64 o.kind, .int .i64 o.f, .int .i64 o.n, .slice B o.b.length cb, .slice K o.keep.length ck] 38)
  have x0 := alloc_new w (.cells #[.int .i64 o.kind, .int .i64 o.f, .int .i64 o.n, .slice B o.b.length cb, .slice K o.keep.length ck] 38) _ rfl
  have hD1 := hD.move hba
  have hR1 := hR.move (hba.block r (heap_lt hR.cells))
  have ho1 := OnlyS.of_below (S := S3 d b r) hba
  have hlt := hD.lt
  have hltr := heap_lt hR.cells
  clear hD hR hba
  generalize w.alloc (.cells #[.int .i64 o.kind, .int .i64 o.f, .int .i64 o.n, .slice B o.b.length cb, .slice K o.keep.length ck] 38) = W at *
  refine (hpl W).mono ?_
  rw [show o.kind % ((6 : Nat) : Int) = 1 from hk]
  rintro e W' ⟨rfl, rfl⟩
  go_wp2_with fail
  have hdr := (Below.refl W.heap.size W).drew
  have hD3 := hD1.move hdr
  have hR3 := hR1.move (hdr.block r (heap_lt hR1.cells))
  have ho3 := ho1.trans (OnlyS.of_below hdr)
  have x3 := (hdr.block _ (heap_lt x0)).trans x0
  clear hdr hD1 hR1 ho1 x0
  go_region_held3 (fun U => U.cell? ⟨w.heap.size, 1, none⟩ = some (.int .i64 o.f))
    ((rw [cell_row x3]; rfl))
    (first
      | (go_at_call 16
         refine (syncR_calls o.f hD3 hs).mono ?_
         rintro e w' ⟨rfl, ⟨V', hD'⟩, ho'⟩
         replace hR3 := hR3.move (ho'.block r (heap_lt hR3.cells) hrd.1 hrd.2)
         replace x3 := (ho'.block _ (heap_lt x3) (by omega) (by omega)).trans x3
         replace ho3 := ho3.trans (OnlyS.of_d ho' (.inl rfl) (.inr (.inl rfl)))
         clear hD3
         have hD3 := hD')
      | (go_at_call 35
         refine (ref4sync_calls r D o.f _ hR3 hs).mono ?_
         rintro e w' ⟨rfl, hR', ho'⟩
         replace hD3 := hD3.frame ho'.size (fun k hk h => ho'.block k hk (by rcases h with h | h | h <;> first | omega | exact h) (by rcases h with h | h | h <;> first | omega | exact h))
         replace x3 := (ho'.block _ (heap_lt x3) (by omega) (by omega)).trans x3
         replace ho3 := ho3.trans (OnlyS.of_d ho' (.inr (.inr rfl)) (.inr (.inr rfl)))
         clear hR3
         have hR3 := hR'))
  all_goals
    have Hfin : Hid ((∃ V', DiskAt (fun k => k ≠ r) _ d b sw V' (D.syncR o.f).1) ∧ RefAt _ r (D.syncR o.f).1 ∧ OnlyS (S3 d b r) w _) := Lib.hid ⟨⟨V', hD3⟩, hR3, ho3⟩
    clear hD3 hR3 x3 ho3
    go_wp2_with fail
    go_ret
    exact ⟨rfl, Hfin.out⟩

set_option maxHeartbeats 4000000 in
theorem do_clear (d b r : Nat) (sw : Bool) (V : Int → Value) (D : DS) (o : Op4) (B : Option Addr) (cb : Nat) (K : Option Addr) (ck : Nat) (w : World) (hD : DiskAt (fun k => k ≠ r) w d b sw V D) (hR : RefAt w r D) (hrd : r ≠ d ∧ r ≠ b) (ho : o.Ok) (hs : D.steps < 1099511627776) (hk : o.kind % 6 = 2) :
    Calls Try.prog 20 #[.pointer (some ⟨d, 0, none⟩), .pointer (some ⟨r, 0, none⟩), opV o B cb K ck] w fun e w' => e = .returned (.bool true) ∧ (∃ V', DiskAt (fun k => k ≠ r) w' d b sw V' ((D.clearR o.f).1)) ∧ RefAt w' r ((D.clearR o.f).1) ∧ OnlyS (S3 d b r) w w' := by
  have hpl := fun W => place_calls o.kind 6 W (by decide) (by decide) ho.kind.1 ho.kind.2
  go_enter Try.func20, Try.ntmps20
  go_wp2_with fail
  have hba := (Below.refl w.heap.size w).alloc (Nat.le_refl _) (.cells #[.int .i64 o.kind, .int .i64 o.f, .int .i64 o.n, .slice B o.b.length cb, .slice K o.keep.length ck] 38)
  have x0 := alloc_new w (.cells #[.int .i64 o.kind, .int .i64 o.f, .int .i64 o.n, .slice B o.b.length cb, .slice K o.keep.length ck] 38) _ rfl
  have hD1 := hD.move hba
  have hR1 := hR.move (hba.block r (heap_lt hR.cells))
  have ho1 := OnlyS.of_below (S := S3 d b r) hba
  have hlt := hD.lt
  have hltr := heap_lt hR.cells
  clear hD hR hba
  generalize w.alloc (.cells #[.int .i64 o.kind, .int .i64 o.f, .int .i64 o.n, .slice B o.b.length cb, .slice K o.keep.length ck] 38) = W at *
  refine (hpl W).mono ?_
  rw [show o.kind % ((6 : Nat) : Int) = 2 from hk]
  rintro e W' ⟨rfl, rfl⟩
  go_wp2_with fail
  have hdr := (Below.refl W.heap.size W).drew
  have hD3 := hD1.move hdr
  have hR3 := hR1.move (hdr.block r (heap_lt hR1.cells))
  have ho3 := ho1.trans (OnlyS.of_below hdr)
  have x3 := (hdr.block _ (heap_lt x0)).trans x0
  clear hdr hD1 hR1 ho1 x0
  go_region_held3 (fun U => U.cell? ⟨w.heap.size, 1, none⟩ = some (.int .i64 o.f))
    ((rw [cell_row x3]; rfl))
    (first
      | (go_at_call 17
         refine (clearR_calls o.f hD3 hs).mono ?_
         rintro e w' ⟨rfl, ⟨V', hD'⟩, ho'⟩
         replace hR3 := hR3.move (ho'.block r (heap_lt hR3.cells) hrd.1 hrd.2)
         replace x3 := (ho'.block _ (heap_lt x3) (by omega) (by omega)).trans x3
         replace ho3 := ho3.trans (OnlyS.of_d ho' (.inl rfl) (.inr (.inl rfl)))
         clear hD3
         have hD3 := hD')
      | (go_at_call 36
         refine (ref4clear_calls r D o.f _ hR3 hs).mono ?_
         rintro e w' ⟨rfl, hR', ho'⟩
         replace hD3 := hD3.frame ho'.size (fun k hk h => ho'.block k hk (by rcases h with h | h | h <;> first | omega | exact h) (by rcases h with h | h | h <;> first | omega | exact h))
         replace x3 := (ho'.block _ (heap_lt x3) (by omega) (by omega)).trans x3
         replace ho3 := ho3.trans (OnlyS.of_d ho' (.inr (.inr rfl)) (.inr (.inr rfl)))
         clear hR3
         have hR3 := hR'))
  all_goals
    have Hfin : Hid ((∃ V', DiskAt (fun k => k ≠ r) _ d b sw V' (D.clearR o.f).1) ∧ RefAt _ r (D.clearR o.f).1 ∧ OnlyS (S3 d b r) w _) := Lib.hid ⟨⟨V', hD3⟩, hR3, ho3⟩
    clear hD3 hR3 x3 ho3
    go_wp2_with fail
    go_ret
    exact ⟨rfl, Hfin.out⟩

set_option maxHeartbeats 4000000 in
theorem do_read (d b r : Nat) (sw : Bool) (V : Int → Value) (D : DS) (o : Op4) (B : Option Addr) (cb : Nat) (K : Option Addr) (ck : Nat) (w : World) (hD : DiskAt (fun k => k ≠ r) w d b sw V D) (hR : RefAt w r D) (hrd : r ≠ d ∧ r ≠ b) (ho : o.Ok) (hk : o.kind % 6 = 3) :
    Calls Try.prog 20 #[.pointer (some ⟨d, 0, none⟩), .pointer (some ⟨r, 0, none⟩), opV o B cb K ck] w fun e w' => e = .returned (.bool true) ∧ (∃ V', DiskAt (fun k => k ≠ r) w' d b sw V' (D)) ∧ RefAt w' r (D) ∧ OnlyS (S3 d b r) w w' := by
  have hpl := fun W => place_calls o.kind 6 W (by decide) (by decide) ho.kind.1 ho.kind.2
  go_enter Try.func20, Try.ntmps20
  go_wp2_with fail
  have hba := (Below.refl w.heap.size w).alloc (Nat.le_refl _) (.cells #[.int .i64 o.kind, .int .i64 o.f, .int .i64 o.n, .slice B o.b.length cb, .slice K o.keep.length ck] 38)
  have x0 := alloc_new w (.cells #[.int .i64 o.kind, .int .i64 o.f, .int .i64 o.n, .slice B o.b.length cb, .slice K o.keep.length ck] 38) _ rfl
  have hD1 := hD.move hba
  have hR1 := hR.move (hba.block r (heap_lt hR.cells))
  have ho1 := OnlyS.of_below (S := S3 d b r) hba
  have hlt := hD.lt
  have hltr := heap_lt hR.cells
  clear hD hR hba
  generalize w.alloc (.cells #[.int .i64 o.kind, .int .i64 o.f, .int .i64 o.n, .slice B o.b.length cb, .slice K o.keep.length ck] 38) = W at *
  refine (hpl W).mono ?_
  rw [show o.kind % ((6 : Nat) : Int) = 3 from hk]
  rintro e W' ⟨rfl, rfl⟩
  have p1 : W.cell? ⟨w.heap.size, 1, none⟩ = some (.int .i64 o.f) := by rw [cell_row x0]; rfl
  go_wp2_with fail
  refine (read_calls d b sw V D o.f W hD1).mono ?_
  generalize hRD : readD D o.f = RD at *
  rintro e w2 ⟨⟨u, k, rfl, rfl, hown⟩, hb2⟩
  have hR2 := hR1.move (hb2.block r (heap_lt hR1.cells))
  have hWs := heap_lt x0
  have x2 := (hb2.block _ hWs).trans x0
  have p1' : w2.cell? ⟨w.heap.size, 1, none⟩ = some (.int .i64 o.f) := by rw [cell_row x2]; rfl
  have hread := ref4read_calls r D o.f w2 hR2
  rw [hRD] at hread
  obtain ⟨A, c, rfl, hc, hrd'⟩ := own_rd hown
  have hs1 := run_str (P := Try.prog) (dst := 9) Try.underlying22 Try.underlying5 Try.underlying9 hrd' c
  clear x0 x2 p1
  go_wp2_with fail
  refine hread.mono ?_
  rintro e w3 ⟨rfl, rfl⟩
  go_wp2_with fail
  refine (spoil_calls w2 hown).mono ?_
  rintro e w9 ⟨rfl, ho9⟩
  have hlt2 : ∀ k, (Value.slice A RD.1.length c).ownBlock = some k → W.heap.size ≤ k := fun k hk => (hown.lt k hk).1
  have hb9 := hb2.trans (ho9.below (base := W.heap.size) hlt2)
  have Hfin : Hid ((∃ V', DiskAt (fun k => k ≠ r) w9 d b sw V' D) ∧ RefAt w9 r D ∧ OnlyS (S3 d b r) w w9) := Lib.hid ⟨⟨V, hD1.move hb9⟩, hR1.move (hb9.block r (heap_lt hR1.cells)), ho1.trans (OnlyS.of_below hb9)⟩
  clear hD1 hR1 ho1 hb2 ho9 hb9 hown hR2 hs1 hread
  go_wp2_with fail
  go_ret
  exact ⟨rfl, Hfin.out⟩

set_option maxHeartbeats 4000000 in
theorem do_arm (d b r : Nat) (sw : Bool) (V : Int → Value) (D : DS) (o : Op4) (B : Option Addr) (cb : Nat) (K : Option Addr) (ck : Nat) (w : World) (hD : DiskAt (fun k => k ≠ r) w d b sw V D) (hR : RefAt w r D) (hrd : r ≠ d ∧ r ≠ b) (ho : o.Ok) (hk : o.kind % 6 = 4) :
    Calls Try.prog 20 #[.pointer (some ⟨d, 0, none⟩), .pointer (some ⟨r, 0, none⟩), opV o B cb K ck] w fun e w' => e = .returned (.bool true) ∧ (∃ V', DiskAt (fun k => k ≠ r) w' d b sw V' (D.arm o.n)) ∧ RefAt w' r (D.arm o.n) ∧ OnlyS (S3 d b r) w w' := by
  have hpl := fun W => place_calls o.kind 6 W (by decide) (by decide) ho.kind.1 ho.kind.2
  go_enter Try.func20, Try.ntmps20
  go_wp2_with fail
  have hba := (Below.refl w.heap.size w).alloc (Nat.le_refl _) (.cells #[.int .i64 o.kind, .int .i64 o.f, .int .i64 o.n, .slice B o.b.length cb, .slice K o.keep.length ck] 38)
  have x0 := alloc_new w (.cells #[.int .i64 o.kind, .int .i64 o.f, .int .i64 o.n, .slice B o.b.length cb, .slice K o.keep.length ck] 38) _ rfl
  have hD1 := hD.move hba
  have hR1 := hR.move (hba.block r (heap_lt hR.cells))
  have ho1 := OnlyS.of_below (S := S3 d b r) hba
  have hlt := hD.lt
  have hltr := heap_lt hR.cells
  clear hD hR hba
  generalize w.alloc (.cells #[.int .i64 o.kind, .int .i64 o.f, .int .i64 o.n, .slice B o.b.length cb, .slice K o.keep.length ck] 38) = W at *
  refine (hpl W).mono ?_
  rw [show o.kind % ((6 : Nat) : Int) = 4 from hk]
  rintro e W' ⟨rfl, rfl⟩
  have p1 : W.cell? ⟨w.heap.size, 2, none⟩ = some (.int .i64 o.n) := by rw [cell_row x0]; rfl
  go_wp2_with fail
  refine (arm_calls d b sw V D o.n W hD1 ho.n.2).mono ?_
  rintro e w2 ⟨rfl, hD2, ho2⟩
  have hR2 := hR1.move (ho2.block r (heap_lt hR1.cells) hrd.1 hrd.2)
  have x2 := (ho2.block _ (heap_lt x0) (by omega) (by omega)).trans x0
  have p1' : w2.cell? ⟨w.heap.size, 2, none⟩ = some (.int .i64 o.n) := by rw [cell_row x2]; rfl
  have hmx := fun U => run_max2 (P := Try.prog) #[3, 3] 3 o.n (-1) U
  have ho3 := (ho1.trans (OnlyS.of_d ho2 (.inl rfl) (.inr (.inl rfl)))).trans (OnlyS.of_d (S := S3 d b r) ((OnlyD.refl r r w2).setCell 5 (.int .i64 (max o.n (-1)))) (.inr (.inr rfl)) (.inr (.inr rfl)))
  have hR3 : RefAt (w2.setCell ⟨r, 5, none⟩ (.int .i64 (max o.n (-1)))) r (D.arm o.n) :=
    ⟨by rw [set_row hR2.cells]; simp [refCells, DS.arm], hD2.ok⟩
  have hD3 : DiskAt (fun k => k ≠ r) (w2.setCell ⟨r, 5, none⟩ (.int .i64 (max o.n (-1)))) d b sw V (D.arm o.n) := hD2.frame (by simp [World.setCell]) (fun k hk h => by
    rw [Below.heap_setCell]
    rcases h with h | h | h <;> first | exact h | (subst h; first | exact hrd.1.symm | exact hrd.2.symm))
  have Hfin : Hid ((∃ V', DiskAt (fun k => k ≠ r) (w2.setCell ⟨r, 5, none⟩ (.int .i64 (max o.n (-1)))) d b sw V' (D.arm o.n)) ∧ RefAt (w2.setCell ⟨r, 5, none⟩ (.int .i64 (max o.n (-1)))) r (D.arm o.n) ∧ OnlyS (S3 d b r) w (w2.setCell ⟨r, 5, none⟩ (.int .i64 (max o.n (-1))))) := Lib.hid ⟨⟨V, hD3⟩, hR3, ho3⟩
  obtain ⟨c4, c5, c6, c7, cf⟩ := hR2.cell
  clear hD1 hR1 ho1 hD2 ho2 hR2 x0 x2 p1 hD3 hR3 ho3
  go_wp2_with fail
  go_ret
  exact ⟨rfl, Hfin.out⟩

set_option maxHeartbeats 4000000 in
theorem do_power (d b r : Nat) (sw : Bool) (V : Int → Value) (D : DS) (o : Op4) (B : Option Addr) (cb : Nat) (K : Option Addr) (ck : Nat) (w : World) (hD : DiskAt (fun k => k ≠ r) w d b sw V D) (hR : RefAt w r D) (hrd : r ≠ d ∧ r ≠ b) (ho : o.Ok) (hkp : o.keep.length ≤ 10) (hK : ∀ w', OnlyS (S3 d b r) w w' → Rd w' K o.keep.length (o.keep.map (Value.int .i64))) (hlv : D.lives < 1099511627776) (hk : ¬ o.kind % 6 < 5) :
    Calls Try.prog 20 #[.pointer (some ⟨d, 0, none⟩), .pointer (some ⟨r, 0, none⟩), opV o B cb K ck] w fun e w' => e = .returned (.bool true) ∧ (∃ V', DiskAt (fun k => k ≠ r) w' d b sw V' (D.power o.keep)) ∧ RefAt w' r (D.power o.keep) ∧ OnlyS (S3 d b r) w w' := by
  have hpl := fun W => place_calls o.kind 6 W (by decide) (by decide) ho.kind.1 ho.kind.2
  go_enter Try.func20, Try.ntmps20
  go_wp2_with fail
  have hba := (Below.refl w.heap.size w).alloc (Nat.le_refl _) (.cells #[.int .i64 o.kind, .int .i64 o.f, .int .i64 o.n, .slice B o.b.length cb, .slice K o.keep.length ck] 38)
  have x0 := alloc_new w (.cells #[.int .i64 o.kind, .int .i64 o.f, .int .i64 o.n, .slice B o.b.length cb, .slice K o.keep.length ck] 38) _ rfl
  have hD1 := hD.move hba
  have hR1 := hR.move (hba.block r (heap_lt hR.cells))
  have ho1 := OnlyS.of_below (S := S3 d b r) hba
  have hlt := hD.lt
  have hltr := heap_lt hR.cells
  clear hD hR hba
  generalize w.alloc (.cells #[.int .i64 o.kind, .int .i64 o.f, .int .i64 o.n, .slice B o.b.length cb, .slice K o.keep.length ck] 38) = W at *
  refine (hpl W).mono ?_
  have h5 : o.kind % 6 = 5 := by omega
  rw [show o.kind % ((6 : Nat) : Int) = 5 from h5]
  rintro e W' ⟨rfl, rfl⟩
  have p1 : W.cell? ⟨w.heap.size, 4, none⟩ = some (.slice K o.keep.length ck) := by rw [cell_row x0]; rfl
  go_wp2_with fail
  refine (power_calls d b sw V D K o.keep.length ck o.keep W hD1 (fun w' ho' => hK _ (ho1.trans (OnlyS.of_d ho' (.inl rfl) (.inr (.inl rfl))))) ho.keep (by omega) hlv).mono ?_
  rintro e w2 ⟨rfl, ⟨V', hD2⟩, ho2⟩
  have hR2 := hR1.move (ho2.block r (heap_lt hR1.cells) hrd.1 hrd.2)
  have x2 := (ho2.block _ (heap_lt x0) (by omega) (by omega)).trans x0
  have p1' : w2.cell? ⟨w.heap.size, 4, none⟩ = some (.slice K o.keep.length ck) := by rw [cell_row x2]; rfl
  have ho3 := ho1.trans (OnlyS.of_d ho2 (.inl rfl) (.inr (.inl rfl)))
  clear hD1 hR1 ho1 ho2 x0 x2 p1
  go_wp2_with fail
  refine (ref4power_calls r D K o.keep.length ck o.keep w2 hR2 (fun w' ho' => hK _ (ho3.trans (OnlyS.of_d ho' (.inr (.inr rfl)) (.inr (.inr rfl))))) ho.keep (by omega) hlv).mono ?_
  rintro e w4 ⟨rfl, hR4, ho4⟩
  have hD4 := hD2.frame ho4.size (fun k hk h => by
    have hkr : k ≠ r := by
      rcases h with h | h | h
      · subst h; exact hrd.1.symm
      · subst h; exact hrd.2.symm
      · exact h
    exact ho4.block k hk hkr hkr)
  have Hfin : Hid ((∃ V', DiskAt (fun k => k ≠ r) w4 d b sw V' (D.power o.keep)) ∧ RefAt w4 r (D.power o.keep) ∧ OnlyS (S3 d b r) w w4) := Lib.hid ⟨⟨V', hD4⟩, hR4, ho3.trans (OnlyS.of_d ho4 (.inr (.inr rfl)) (.inr (.inr rfl)))⟩
  clear hD2 hR2 ho3 hR4 ho4 hD4 p1'
  go_wp2_with fail
  go_ret
  exact ⟨rfl, Hfin.out⟩

theorem do_calls (d b r : Nat) (sw : Bool) (V : Int → Value) (D : DS) (o : Op4) (B : Option Addr) (cb : Nat) (K : Option Addr) (ck : Nat) (w : World) (hD : DiskAt (fun k => k ≠ r) w d b sw V D) (hR : RefAt w r D) (hrd : r ≠ d ∧ r ≠ b) (ho : o.Ok) (hlb : o.b.length ≤ 1000)
    (hB : ∀ w', OnlyS (S3 d b r) w w' → Rd w' B o.b.length (ub o.b)) (hkp : o.keep.length ≤ 10) (hK : ∀ w', OnlyS (S3 d b r) w w' → Rd w' K o.keep.length (o.keep.map (Value.int .i64))) (hs : D.steps < 1099511627776) (hlv : D.lives < 1099511627776) :
    Calls Try.prog 20 #[.pointer (some ⟨d, 0, none⟩), .pointer (some ⟨r, 0, none⟩), opV o B cb K ck] w fun e w' => e = .returned (.bool true) ∧ (∃ V', DiskAt (fun k => k ≠ r) w' d b sw V' (doOp D o)) ∧ RefAt w' r (doOp D o) ∧ OnlyS (S3 d b r) w w' := by
  unfold doOp
  by_cases h0 : o.kind % 6 = 0
  · rw [if_pos h0]; exact do_append d b r sw V D o B cb K ck w hD hR hrd ho hlb hB hs h0
  rw [if_neg h0]
  by_cases h1 : o.kind % 6 = 1
  · rw [if_pos h1]; exact do_sync d b r sw V D o B cb K ck w hD hR hrd ho hs h1
  rw [if_neg h1]
  by_cases h2 : o.kind % 6 = 2
  · rw [if_pos h2]; exact do_clear d b r sw V D o B cb K ck w hD hR hrd ho hs h2
  rw [if_neg h2]
  by_cases h3 : o.kind % 6 = 3
  · rw [if_pos h3]; exact do_read d b r sw V D o B cb K ck w hD hR hrd ho h3
  rw [if_neg h3]
  by_cases h4 : o.kind % 6 = 4
  · rw [if_pos h4]; exact do_arm d b r sw V D o B cb K ck w hD hR hrd ho h4
  rw [if_neg h4]
  exact do_power d b r sw V D o B cb K ck w hD hR hrd ho hkp hK hlv (by omega)
theorem doOp_steps (D : DS) (o : Op4) : (doOp D o).steps ≤ D.steps + 1 := by
  unfold doOp
  split
  · exact appR_steps _ _ _
  split
  · exact syncR_steps _ _
  split
  · exact clearR_steps _ _
  split
  · omega
  split
  · simp [DS.arm]
  · simp [DS.power, DS.cuts]
theorem doOp_lives (D : DS) (o : Op4) : (doOp D o).lives ≤ D.lives + 1 := by
  unfold doOp
  split
  · rw [appR_lives]; omega
  split
  · rw [syncR_lives]; omega
  split
  · rw [clearR_lives]; omega
  split
  · omega
  split
  · simp [DS.arm]
  · simp [DS.power]
end Go.Proofs.Ytafheojankmniaa
