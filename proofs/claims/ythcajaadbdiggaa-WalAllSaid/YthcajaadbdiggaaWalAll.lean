/- The walk of the law WalAll. -/
import Derived.Test.YthcajaadbdiggaaWalDo1
import Derived.Test.YthcajaadbdiggaaWalDo2
import Derived.Test.YthcajaadbdiggaaWalDo3
import Derived.Test.YthcajaadbdiggaaWalSame
namespace Go.Proofs.Ythcajaadbdiggaa
set_option maxRecDepth 1000000
open Go.RowKit

theorem Inv5.more {D : DS} {o : Option WS} {k : Nat} (h : Inv5 D o k) : Inv5 D o (k + 1) := h.arm D.armed
theorem bdo_calls (base q d b r : Nat) (D : DS) (o : Option WS) (P Q : Value) (k5 : Nat) (op : Op5) (B : Option Addr) (cb : Nat) (C : Option Addr) (cl : Nat) (K : Option Addr) (ck : Nat) (w : World) (h : BothAt base w q d b r D o P Q) (hI : Inv5 D o k5) (hk5 : k5 ≤ 60) (hok : op.Ok) (hlo : Light1 op) (hA : OpRd base w op B cb C cl K ck) :
    Calls Try.prog 14 #[.pointer (some ⟨q, 0, none⟩), .agg (opV5 op B cb C cl K ck)] w fun e w' => DoPost base w q d b r k5 e w' := by
  have h1 := Int.emod_lt_of_pos op.kind (show (0 : Int) < 7 by decide)
  have h2 := Int.emod_nonneg op.kind (show (7 : Int) ≠ 0 by decide)
  obtain hk | hk | hk | hk | hk : (op.kind % 7 = 0 ∨ op.kind % 7 = 1 ∨ op.kind % 7 = 2) ∨ op.kind % 7 = 3 ∨ op.kind % 7 = 4 ∨ op.kind % 7 = 5 ∨ op.kind % 7 = 6 := by omega
  · cases o with
    | none => exact bdo_none base q d b r D P Q k5 op B cb C cl K ck w h hI hk5 hok hlo hA hk
    | some WL =>
      rcases hk with hk | hk | hk
      · exact bdo_app base q d b r D WL P Q k5 op B cb C cl K ck w h hI hk5 hok hlo hA hk
      · exact bdo_sync base q d b r D WL P Q k5 op B cb C cl K ck w h hI hk5 hok hlo hA hk
      · exact bdo_rew base q d b r D WL P Q k5 op B cb C cl K ck w h hI hk5 hok hlo hA hk
  · exact bdo_arm base q d b r D o P Q k5 op B cb C cl K ck w h hI hk5 hok hlo hA hk
  · exact bdo_power base q d b r D o P Q k5 op B cb C cl K ck w h hI hk5 hok hlo hA hk
  · exact bdo_open base q d b r D o P Q k5 op B cb C cl K ck w h hI hk5 hok hlo hA hk
  · exact bdo_write base q d b r D o P Q k5 op B cb C cl K ck w h hI hk5 hok hlo hA hk

set_option maxHeartbeats 8000000 in
theorem walall_walk (w : World) (A : Option Addr) (n cap : Nat) (os : List Op5) (hr : RdOps w A n os) (hn : n ≤ 140737488355328) (_hc : n ≤ cap) :
    Calls Try.prog 3 #[.slice A n cap] w fun e w' => e = .returned (.bool true) ∧ Below w.heap.size w w' := by
  go_enter Try.func3, Try.ntmps3
  go_wp2_with fail
  refine (begun_calls w).mono ?_
  rintro e w1 ⟨rfl, hbel1⟩
  go_wp2_with fail
  refine (light_calls A n cap os 40 w1 (hr.below hbel1) hn (by decide)).mono ?_
  rintro e w2 ⟨⟨rfl, hlight⟩ | rfl, rfl⟩
  rotate_left
  · go_wp2_with fail
    go_ret
    exact ⟨rfl, hbel1⟩
  go_wp2_with fail
  refine (new_calls Any w1).mono ?_
  rintro e w2 ⟨d, b, V, rfl, hD, hd, hb, hb2⟩
  have hbel2 := below_then hbel1 hb2
  have hwd : w.heap.size ≤ d ∧ w.heap.size ≤ b := ⟨Nat.le_trans hbel1.size hd, Nat.le_trans hbel1.size hb⟩
  clear hb2 hd hb
  go_wp2_with fail
  refine (ref4new_calls w2).mono ?_
  rintro e w3 ⟨r, rfl, hR, hr2, hb3⟩
  have hbel3 := below_then hbel2 hb3
  have hD3 : DiskAt (FreeB w3.heap.size r) w3 d b false V DS.new := (hD.imp (Y := FreeB w3.heap.size r) (fun k hk _ => ⟨by have := hb3.size; omega, by omega⟩)).move hb3
  have hba := (Below.refl w3.heap.size w3).alloc (Nat.le_refl _) (bothCells d r (.pointer none) (.pointer none))
  have hB4 : BothAt w.heap.size (w3.alloc (bothCells d r (.pointer none) (.pointer none))) w3.heap.size d b r DS.new none (.pointer none) (.pointer none) :=
    ⟨alloc_new w3 _ _ rfl, hR.move (hba.block r (heap_lt hR.cells)), ⟨rfl, rfl, V, hD3.move hba⟩, hbel3.size, hwd.1, hwd.2, Nat.le_trans hbel2.size hr2, Nat.le_trans hbel3.size hba.size⟩
  have hbel4 := below_then hbel3 hba
  have hbo := bopen_calls w.heap.size w3.heap.size d b r DS.new none _ _ _ hB4 (by decide)
  have Hok := Lib.hid hD3.ok
  clear hD hR hr2 hb3 hD3 hba hbel1 hbel2 hbel3 hB4
  obtain ⟨q, hq⟩ : ∃ q, w3.heap.size = q := ⟨_, rfl⟩
  rw [hq] at hbo
  go_wp2_with fail
  refine hbo.mono ?_
  rintro e w5 ⟨rfl, ⟨P', Q', hB5⟩, hb5, -⟩
  have hbel5 := hbel4.trans hb5
  have HI := Lib.hid (Inv5.opened Hok.out hB5.ref.ok (k := 0) (by decide) (by decide))
  have hle := hlight.1
  have Hli := Lib.hid hlight.2
  clear hbo hb5 hbel4 Hok hlight
  generalize (wOpen DS.new).1 = D0 at *
  generalize (wOpen DS.new).2.1 = o0 at *
  go_wp2_with fail
  go_loopw [4] (fun i wr => ∃ (k : Nat) (D : DS) (o : Option WS) (P Q : Value), k ≤ n ∧ i = .int .i64 k ∧ BothAt w.heap.size wr q d b r D o P Q ∧ Hid (Inv5 D o (k + 1)) ∧ Below w.heap.size w wr) (fun i _ => n - (intOf i).toNat)
  case atStart => exact ⟨0, D0, o0, P', Q', Nat.zero_le _, rfl, hB5, HI, hbel5⟩
  case round =>
    clear hB5 HI hbel5
    obtain ⟨k, D, o, P, Q, hk, rfl, hB, HI, hbel⟩ := hrel
    by_cases hlt : k < n
    · obtain ⟨g, f, op, rfl, ho, hok, B, cb, C, cl, K, ck, h0, h1, h2, h3, h4, h5, h6, h7, h8, h9, h10, h11⟩ := hr.at_ hlt
      have hlo := Hli.out op (List.mem_of_getElem? ho)
      have hk1 : (k : Int) < n := by omega
      have hmv : ∀ a v, w.cell? a = some v → wr.cell? a = some v := fun a v hc => (hbel.cell (World.block_lt_of_cell? w a hc)).trans hc
      have c0 := hmv _ _ h0
      have c1 := hmv _ _ h1
      have c2 := hmv _ _ h2
      have c3 := hmv _ _ h3
      have c4 := hmv _ _ h4
      have c5 := hmv _ _ h5
      have hA : OpRd w.heap.size wr op B cb C cl K ck := fun U hU => by
        have hb := hbel.trans hU
        exact ⟨h7.below hb, h6, h9.below hb, h8, h11.below hb, h10⟩
      have hdo := bdo_calls w.heap.size q d b r D o P Q (k + 1) op B cb C cl K ck wr hB HI.out (by omega) hok hlo hA
      clear ho h0 h1 h2 h3 h4 h5 h6 h7 h8 h9 h10 h11 hmv hB HI hlo hok hA
      go_wp2_with fail
      refine hdo.mono ?_
      rintro e w6 ⟨rfl, ⟨D6, o6, P6, Q6, hB6, hI6⟩, hb6⟩
      have hbel6 := hbel.trans hb6
      have hsm := bsame_calls w.heap.size q d b r D6 o6 P6 Q6 (k + 1 + 1) w6 hB6 hI6
      have HI6 := Lib.hid hI6
      clear hdo c0 c1 c2 c3 c4 c5 hb6 hbel hI6
      go_wp2_with fail
      refine hsm.mono ?_
      rintro e w7 ⟨rfl, hb7⟩
      have hB7 := hB6.below hb7
      have hbel7 := below_then hbel6 hb7
      clear hsm hb7 hB6 hbel6
      go_wp2_with fail
      go_roundw
      case rel => exact ⟨k + 1, D6, o6, P6, Q6, by omega, by go_num, hB7, HI6, hbel7⟩
      case measure => simp [intOf]; omega
    · obtain rfl : k = n := by omega
      clear hB HI
      go_wp2_with fail
      go_ret
      exact ⟨rfl, hbel⟩
end Go.Proofs.Ythcajaadbdiggaa
