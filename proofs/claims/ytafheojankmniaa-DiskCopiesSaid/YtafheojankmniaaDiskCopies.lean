/- The walk of the law DiskCopies. -/
import Derived.Test.YtafheojankmniaaDiskSame
import Derived.Test.YtafheojankmniaaDiskCopy
namespace Go.Proofs.Ytafheojankmniaa
open Go.RowKit

set_option maxHeartbeats 4000000 in
theorem diskcopies_walk (w : World) (A : Option Addr) (n cap : Nat) (os : List Op4) (hr : RdOps w A n os) (hn : n ≤ 140737488355328) (_hc : n ≤ cap)
    (A2 : Option Addr) (n2 cap2 : Nat) (os2 : List Op4) (hr2 : RdOps w A2 n2 os2) (hn2 : n2 ≤ 140737488355328) (_hc2 : n2 ≤ cap2) :
    Calls Try.prog 7 #[.slice A n cap, .slice A2 n2 cap2] w fun e w' => e = .returned (.bool true) ∧ Below w.heap.size w w' := by
  go_enter Try.func7, Try.ntmps7
  go_wp2_with fail
  refine (begun_calls _).mono ?_
  rintro e w1 ⟨rfl, hb1⟩
  have hr1 := hr.below hb1
  have hr12 := hr2.below hb1
  go_wp2_with fail
  refine (light_calls A n cap os 40 _ hr1 hn (by decide)).mono ?_
  rintro e w2 ⟨hp, rfl⟩
  rcases hp with ⟨rfl, hlight⟩ | rfl
  · go_wp2_with fail
    refine (light_calls A2 n2 cap2 os2 40 _ hr12 hn2 (by decide)).mono ?_
    rintro e w2 ⟨hp, rfl⟩
    rcases hp with ⟨rfl, hlight2⟩ | rfl
    · go_wp2_with fail
      refine (new_calls (fun _ => True) _).mono ?_
      rintro e w2 ⟨d, b, V, rfl, hD, hd, hb, hb2⟩
      have hbel := below_then hb1 hb2
      have hltD := hD.lt
      go_wp2_with fail
      refine (ref4new_calls _).mono ?_
      rintro e w3 ⟨r, rfl, hR, hr3, hb3⟩
      have hD3 := (hD.imp (Y := fun k => k ≠ r) (fun k hk _ => by omega)).move hb3
      have hbel3 := below_then hbel hb3
      have hrd : r ≠ d ∧ r ≠ b := by omega
      have hdw : w.heap.size ≤ d ∧ w.heap.size ≤ b ∧ w.heap.size ≤ r := by have := hb1.size; have := hbel.size; omega
      clear hD hr1 hr12 hb1 hb2 hb3 hbel
      go_wp2_with fail
      go_loopw [7] (fun i wr => ∃ (k : Nat) (D : DS) (V' : Int → Value), k ≤ n ∧ i = .int .i64 k ∧ DiskAt (fun k => k ≠ r) wr d b false V' D ∧ RefAt wr r D ∧ D.steps ≤ k ∧ D.lives ≤ k ∧ Below w.heap.size w wr) (fun i _ => n - (intOf i).toNat)
      case atStart => exact ⟨0, DS.new, V, Nat.zero_le _, rfl, hD3, hR, Nat.le_refl _, Nat.le_refl _, hbel3⟩
      case round =>
        clear hD3 hR hbel3
        obtain ⟨k, D, V', hk, rfl, hD, hR, hst, hlv, hbel⟩ := hrel
        by_cases hlt : k < n
        · obtain ⟨g, q, o, rfl, ho, hok, B, cb, K, ck, h0, h1, h2, h3, h4, h5, h6, h7, h8⟩ := hr.at_ hlt
          have hlo := hlight.2 o (List.mem_of_getElem? ho)
          have hn100 := hlight.1
          have hk1 : (k : Int) < n := by omega
          have hS : ∀ w', OnlyS (S3 d b r) wr w' → Below w.heap.size w w' := fun w' h => hbel.trans (h.below (fun k hk => by rcases hk with h | h | h <;> omega) hbel.size)
          have hmv : ∀ (w' : World) a v, Below w.heap.size w w' → w.cell? a = some v → w'.cell? a = some v := fun w' a v hb hc => (hb.cell (World.block_lt_of_cell? w a hc)).trans hc
          have c0 := hmv wr _ _ hbel h0
          have c1 := hmv wr _ _ hbel h1
          have c2 := hmv wr _ _ hbel h2
          have c3 := hmv wr _ _ hbel h3
          have c4 := hmv wr _ _ hbel h4
          have hdo := do_calls d b r false V' D o B cb K ck wr hD hR hrd hok hlo.1 (fun w' h => h6.below (hS w' h)) hlo.2 (fun w' h => h8.below (hS w' h)) (by omega) (by omega)
          have hst2 := doOp_steps D o
          have hlv2 := doOp_lives D o
          clear ho h0 h1 h2 h3 h4 h6 h8 hmv
          go_wp2_with fail
          refine hdo.mono ?_
          rintro e w4 ⟨rfl, ⟨V4, hD4⟩, hR4, ho4⟩
          have hb4 := hS _ ho4
          clear hdo c0 c1 c2 c3 c4 hD hR
          generalize doOp D o = D4 at *
          go_wp2_with fail
          go_roundw
          case rel => exact ⟨k + 1, D4, V4, by omega, by go_num, hD4, hR4, by omega, by omega, hb4⟩
          case measure => simp [intOf]; omega
        · obtain rfl : k = n := by omega
          have hn100 := hlight.1
          have hltr := heap_lt hR.cells
          have hltd := hD.lt
          have hDN := hD.imp (Y := fun k => k ≠ r ∧ k < wr.heap.size) (fun k hk h => ⟨h, hk⟩)
          go_wp2_with fail
          refine (copy_calls (fun _ => True) d b false V' D wr hD (fun _ _ => trivial)).mono ?_
          rintro e w4 ⟨d2, b2, sw2, V2, rfl, hC, hd2, hb2, hb4⟩
          have hD4 := hDN.move hb4
          have hR4 := hR.move (hb4.block r (heap_lt hR.cells))
          have hbel4 := below_then hbel hb4
          have hltC := hC.lt
          have hwr := hbel.size
          clear hD hR hbel hDN
          go_wp2_with fail
          refine (ref4copy_calls r D w4 hR4).mono ?_
          rintro e w5 ⟨s, rfl, hS5, hs5, hb5⟩
          have hD5 := hD4.move hb5
          have hR5 := hR4.move (hb5.block r (heap_lt hR4.cells))
          have hC5 := (hC.imp (Y := fun k => k ≠ s) (fun k hk _ => by omega)).move hb5
          have hbel5 := below_then hbel4 hb5
          have hsd : s ≠ d2 ∧ s ≠ b2 := by omega
          have hw5 := hbel4.size
          have hb45 := hb4.size
          have hN : wr.heap.size ≤ d2 ∧ wr.heap.size ≤ b2 ∧ wr.heap.size ≤ s := by omega
          clear hD4 hR4 hC hb4 hb5 hbel4
          generalize wr.heap.size = N at *
          go_wp2_with fail
          go_loopw [10] (fun i wr => ∃ (q : Nat) (E : DS) (VE : Int → Value), q ≤ n2 ∧ i = .int .i64 q ∧ DiskAt (fun k => k ≠ s) wr d2 b2 sw2 VE E ∧ RefAt wr s E ∧ DiskAt (fun k => k ≠ r ∧ k < N) wr d b false V' D ∧ RefAt wr r D ∧ E.steps ≤ 40 + q ∧ E.lives ≤ 40 + q ∧ Below w.heap.size w wr) (fun i _ => n2 - (intOf i).toNat)
          case atStart => exact ⟨0, D, V2, Nat.zero_le _, rfl, hC5, hS5, hD5, hR5, by omega, by omega, hbel5⟩
          case round =>
            clear hC5 hS5 hD5 hR5 hbel5
            obtain ⟨q, E, VE, hq, rfl, hE, hRE, hD, hR, hst2, hlv2, hbel⟩ := hrel
            by_cases hlt2 : q < n2
            · obtain ⟨g, p, o, rfl, ho, hok, B, cb, K, ck, h0, h1, h2, h3, h4, h5, h6, h7, h8⟩ := hr2.at_ hlt2
              have hlo := hlight2.2 o (List.mem_of_getElem? ho)
              have hn40 := hlight2.1
              have hq1 : (q : Int) < n2 := by omega
              have hS : ∀ w', OnlyS (S3 d2 b2 s) wr w' → Below w.heap.size w w' := fun w' h => hbel.trans (h.below (fun k hk => by rcases hk with h | h | h <;> omega) hbel.size)
              have hmv : ∀ (w' : World) a v, Below w.heap.size w w' → w.cell? a = some v → w'.cell? a = some v := fun w' a v hb hc => (hb.cell (World.block_lt_of_cell? w a hc)).trans hc
              have c0 := hmv wr _ _ hbel h0
              have c1 := hmv wr _ _ hbel h1
              have c2 := hmv wr _ _ hbel h2
              have c3 := hmv wr _ _ hbel h3
              have c4 := hmv wr _ _ hbel h4
              have hdo := do_calls d2 b2 s sw2 VE E o B cb K ck wr hE hRE hsd hok hlo.1 (fun w' h => h6.below (hS w' h)) hlo.2 (fun w' h => h8.below (hS w' h)) (by omega) (by omega)
              have hst3 := doOp_steps E o
              have hlv3 := doOp_lives E o
              clear ho h0 h1 h2 h3 h4 h6 h8 hmv
              go_wp2_with fail
              refine hdo.mono ?_
              rintro e w6 ⟨rfl, ⟨V6, hE6⟩, hRE6, ho6⟩
              have hb6 := hS _ ho6
              have hD6 := hD.frame ho6.size (fun k hk h => ho6.block k hk (fun h2 => by
                have hkN : k < N := by
                  rcases h with h | h | h
                  · omega
                  · omega
                  · exact h.2
                rcases h2 with h2 | h2 | h2 <;> omega))
              have hR6 := hR.move (ho6.block r (heap_lt hR.cells) (fun h2 => by rcases h2 with h2 | h2 | h2 <;> omega))
              clear hdo c0 c1 c2 c3 c4 hE hRE hD hR
              generalize doOp E o = E6 at *
              go_wp2_with fail
              go_roundw
              case rel => exact ⟨q + 1, E6, V6, by omega, by go_num, hE6, hRE6, hD6, hR6, by omega, by omega, hb6⟩
              case measure => simp [intOf]; omega
            · obtain rfl : q = n2 := by omega
              go_wp2_with fail
              refine (same_calls d2 b2 s sw2 VE E wr hE hRE).mono ?_
              rintro e w6 ⟨rfl, hb6⟩
              have hD6 := (hD.imp (Y := fun k => k ≠ r) (fun k _ h => h.1)).move hb6
              have hR6 := hR.move (hb6.block r (heap_lt hR.cells))
              have hbel6 := below_then hbel hb6
              clear hE hRE hD hR hbel hb6
              go_wp2_with fail
              refine (same_calls d b r false V' D w6 hD6 hR6).mono ?_
              rintro e w7 ⟨rfl, hb7⟩
              have hbel7 := below_then hbel6 hb7
              go_wp2_with fail
              go_ret
              exact ⟨rfl, hbel7⟩
    · go_wp2_with fail
      go_ret
      exact ⟨rfl, hb1⟩
  · go_wp2_with fail
    go_ret
    exact ⟨rfl, hb1⟩
end Go.Proofs.Ytafheojankmniaa
