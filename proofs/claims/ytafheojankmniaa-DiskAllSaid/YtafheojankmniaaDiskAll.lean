/- The walk of the law DiskAll. -/
import Derived.Test.YtafheojankmniaaDiskSame
namespace Go.Proofs.Ytafheojankmniaa
open Go.RowKit

set_option maxHeartbeats 2000000 in
theorem diskall_walk (w : World) (A : Option Addr) (n cap : Nat) (os : List Op4) (hr : RdOps w A n os) (hn : n ≤ 140737488355328) (_hc : n ≤ cap) :
    Calls Try.prog 5 #[.slice A n cap] w fun e w' => e = .returned (.bool true) ∧ Below w.heap.size w w' := by
  go_enter Try.func5, Try.ntmps5
  go_wp2_with fail
  refine (begun_calls _).mono ?_
  rintro e w1 ⟨rfl, hb1⟩
  have hr1 := hr.below hb1
  go_wp2_with fail
  refine (light_calls A n cap os 100 _ hr1 hn (by decide)).mono ?_
  rintro e w2 ⟨hp, rfl⟩
  rcases hp with ⟨rfl, hlight⟩ | rfl
  · go_wp2_with fail
    refine (new_calls (fun _ => True) _).mono ?_
    rintro e w2 ⟨d, b, V, rfl, hD, hd, hb, hb2⟩
    have hbel := below_then hb1 hb2
    have hltD := hD.lt
    go_wp2_with fail
    refine (ref4new_calls _).mono ?_
    rintro e w3 ⟨r, rfl, hR, hr3, hb3⟩
    have hD3 := (hD.imp (Y := fun k => k ≠ r) (fun k hk _ => by omega)).move hb3
    have hbel3 := below_then hbel hb3
    have hrd : r ≠ d ∧ r ≠ b := by omega
    have hdw : w.heap.size ≤ d ∧ w.heap.size ≤ b ∧ w.heap.size ≤ r := by have := hb1.size; have := hbel.size; omega
    clear hD hr1 hb1 hb2 hb3 hbel
    go_wp2_with fail
    go_loopw [5] (fun i wr => ∃ (k : Nat) (D : DS) (V' : Int → Value), k ≤ n ∧ i = .int .i64 k ∧ DiskAt (fun k => k ≠ r) wr d b false V' D ∧ RefAt wr r D ∧ D.steps ≤ k ∧ D.lives ≤ k ∧ Below w.heap.size w wr) (fun i _ => n - (intOf i).toNat)
    case atStart => exact ⟨0, DS.new, V, Nat.zero_le _, rfl, hD3, hR, Nat.le_refl _, Nat.le_refl _, hbel3⟩
    case round =>
      clear hD3 hR hbel3
      obtain ⟨k, D, V', hk, rfl, hD, hR, hst, hlv, hbel⟩ := hrel
      by_cases hlt : k < n
      · obtain ⟨g, q, o, rfl, ho, hok, B, cb, K, ck, h0, h1, h2, h3, h4, h5, h6, h7, h8⟩ := hr.at_ hlt
        have hlo := hlight.2 o (List.mem_of_getElem? ho)
        have hn100 := hlight.1
        have hk1 : (k : Int) < n := by omega
        have hS : ∀ w', OnlyS (S3 d b r) wr w' → Below w.heap.size w w' := fun w' h => hbel.trans (h.below (fun k hk => by rcases hk with h | h | h <;> omega) hbel.size)
        have hmv : ∀ (w' : World) a v, Below w.heap.size w w' → w.cell? a = some v → w'.cell? a = some v := fun w' a v hb hc => (hb.cell (World.block_lt_of_cell? w a hc)).trans hc
        have c0 := hmv wr _ _ hbel h0
        have c1 := hmv wr _ _ hbel h1
        have c2 := hmv wr _ _ hbel h2
        have c3 := hmv wr _ _ hbel h3
        have c4 := hmv wr _ _ hbel h4
        have hdo := do_calls d b r false V' D o B cb K ck wr hD hR hrd hok hlo.1 (fun w' h => h6.below (hS w' h)) hlo.2 (fun w' h => h8.below (hS w' h)) (by omega) (by omega)
        have hst2 := doOp_steps D o
        have hlv2 := doOp_lives D o
        clear ho h0 h1 h2 h3 h4 h6 h8 hmv
        go_wp2_with fail
        refine hdo.mono ?_
        rintro e w4 ⟨rfl, ⟨V4, hD4⟩, hR4, ho4⟩
        have hb4 := hS _ ho4
        clear hdo c0 c1 c2 c3 c4 hD hR
        generalize doOp D o = D4 at *
        go_wp2_with fail
        refine (same_calls d b r false V4 D4 w4 hD4 hR4).mono ?_
        rintro e w5 ⟨rfl, hb5⟩
        have hD5 := hD4.move hb5
        have hR5 := hR4.move (hb5.block r (heap_lt hR4.cells))
        have hbel5 := below_then hb4 hb5
        clear hD4 hR4 hb4 hb5
        go_wp2_with fail
        go_roundw
        case rel => exact ⟨k + 1, D4, V4, by omega, by go_num, hD5, hR5, by omega, by omega, hbel5⟩
        case measure => simp [intOf]; omega
      · obtain rfl : k = n := by omega
        have hn100 := hlight.1
        go_wp2_with fail
        refine (power_calls d b false V' D none 0 0 [] wr hD (fun w' _ => Rd.none_ _ _) (by simp) (by decide) (by omega)).mono ?_
        rintro e w4 ⟨rfl, ⟨V4, hD4⟩, ho4⟩
        have hR4 := hR.move (ho4.block r (heap_lt hR.cells) hrd.1 hrd.2)
        have hbel4 := hbel.trans (ho4.below hdw.1 hdw.2.1 hbel.size)
        clear hD hR hbel
        go_wp2_with fail
        refine (ref4power_calls r D none 0 0 [] w4 hR4 (fun w' _ => Rd.none_ _ _) (by simp) (by decide) (by omega)).mono ?_
        rintro e w5 ⟨rfl, hR5, ho5⟩
        have hD5 := hD4.frame ho5.size (fun k hk h => by
          have hkr : k ≠ r := by
            rcases h with h | h | h
            · subst h; exact hrd.1.symm
            · subst h; exact hrd.2.symm
            · exact h
          exact ho5.block k hk hkr hkr)
        have hbel5 := hbel4.trans (ho5.below hdw.2.2 hdw.2.2 hbel4.size)
        clear hD4 hR4 hbel4
        go_wp2_with fail
        refine (same_calls d b r false V4 _ w5 hD5 hR5).mono ?_
        rintro e w6 ⟨rfl, hb6⟩
        have hbel6 := below_then hbel5 hb6
        go_wp2_with fail
        go_ret
        exact ⟨rfl, hbel6⟩
  · go_wp2_with fail
    go_ret
    exact ⟨rfl, hb1⟩
end Go.Proofs.Ytafheojankmniaa
