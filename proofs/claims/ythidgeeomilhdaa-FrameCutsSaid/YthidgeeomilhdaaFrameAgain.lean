/- The walk of the law FrameAgain. -/
import Derived.Test.YthidgeeomilhdaaFrameLaws
import Derived.Test.YthidgeeomilhdaaScanMath
namespace Go.Proofs.Ythidgeeomilhdaa
open Go.RowKit

/-- 's[:i]' -/
theorem cut_h {P : Program} {t e : TypeId} (ht : P.underlying t = some (.slice e)) (hsz : (P.info? e).map (·.size) = some 1) (A : Option Addr) (n c m : Nat) (hm : m ≤ n) (hc : n ≤ c) :
    ∃ A' : Option Addr, (∀ W : World, (Instr.slice t (.slice A n c) none (some (.int .i64 (m : Int))) none).run P W = .ok (.slice A' m c) W) ∧ ∀ (w : World) (xs : List UInt8), Rd w A n (ub xs) → Rd w A' m (ub (xs.take m)) := by
  obtain ⟨j, hj, hjs⟩ := Option.map_eq_some_iff.1 hsz
  refine ⟨if c = 0 then A else A.map (·.add 0), fun W => ?_, fun w xs h => ?_⟩
  · have hel : P.elem t = e := by simp [Program.elem, ht]
    have hu : P.underlying t = some (.slice (P.elem t)) := by rw [hel]; exact ht
    rw [run_slice_h W t A n c hu .i64 (m : Int) (Int.natCast_nonneg _) (by omega), hel]
    simp [sizeOf, typeInfo, hj, hjs, sliced, Result.andThen]
  · have h2 := h.take hm
    rw [ub_take] at h2
    split
    · exact h2
    · refine ⟨h2.1, fun h0 => ?_⟩
      obtain ⟨ad, rfl, hcell⟩ := h2.2 h0
      exact ⟨ad.add 0, rfl, fun j u hu => by rw [add_zero']; exact hcell j u hu⟩
theorem own_rd' {w : World} {base n c : Nat} {B : Option Addr} {e : TypeId} {xs : List Value} (h : w.ownsRow base e 1 (.slice B n c) n xs) : n ≤ c ∧ Rd w B n xs := by
  obtain ⟨A, c', he, hc, hr⟩ := own_rd h
  injection he with e1 e2 e3
  subst e1; subst e3
  exact ⟨hc, hr⟩
/-- the first k records, written -/
def encs (ls : List (List UInt8)) (k : Nat) : List UInt8 := ((ls.take k).map enc).flatten
theorem encs_next {ls : List (List UInt8)} {k : Nat} {l : List UInt8} (h : ls[k]? = some l) : encs ls (k + 1) = encs ls k ++ enc l := by
  unfold encs; rw [List.take_add_one, h]; simp
theorem encs_le {ls : List (List UInt8)} {k n : Nat} (h : k ≤ n) : (encs ls k).length ≤ (encs ls n).length := by
  obtain ⟨d, rfl⟩ := Nat.exists_eq_add_of_le h
  unfold encs
  rw [List.take_add]
  simp
theorem encs_all (ls : List (List UInt8)) : encs ls ls.length = (ls.map enc).flatten := by unfold encs; rw [List.take_of_length_le (Nat.le_refl _)]

set_option maxRecDepth 10000 in
set_option maxHeartbeats 4000000 in
theorem frameagain_walk (w : World) (A : Option Addr) (m cap : Nat) (xs : List UInt8) (hx : Rd w A m (ub xs)) (hm : m ≤ 140737488355328) (hc : m ≤ cap) :
    Calls Try.prog 7 #[.slice A m cap] w fun e w' => e = .returned (.bool true) ∧ Below w.heap.size w w' := by
  have hl := hx.len
  go_enter Try.func7, Try.ntmps7
  go_wp2_with fail
  refine (begun_calls _).mono ?_
  rintro e w1 ⟨rfl, hb1⟩
  have hx1 := hx.below hb1
  clear hx
  by_cases h1 : m ≤ 8192
  · go_wp2_with fail
    refine (fscan_calls A m cap xs _ hx1 hc (by omega)).mono ?_
    rintro e w2 ⟨⟨B, n, c, G, cs, rfl, hn, hnc, hoB, hol⟩, hb2⟩
    have hx2 := hx1.below hb2
    obtain ⟨hreach, hend⟩ := scan_reach xs
    have hbd := scan_bound xs
    rw [hl] at hbd
    obtain ⟨henc, hmax⟩ := hreach.enc
    have hrl := hol.pl.rdl (own_rd' hoB).2
    have hbel := below_then hb1 hb2
    rw [← encs_all, ← hn] at henc
    have hel : (encs (scanOf xs).1 n).length = (scanOf xs).2 := by rw [← henc, List.length_take]; omega
    clear hoB hol hb1 hb2 hx1 hreach
    generalize (scanOf xs).1 = ls at *
    generalize (scanOf xs).2 = good at *
    have Hmax := Lib.hid hmax
    have Hend := Lib.hid hend
    have Henc := Lib.hid henc
    have hnb : n ≤ 8192 := by omega
    have Hel := Lib.hid hel
    clear hmax hend henc hel hn
    go_wp2_with fail
    go_loopw [5, 6] (fun s i wr => ∃ k q : Nat, k ≤ n ∧ i = .int .i64 k ∧ Hid (q = (encs ls k).length) ∧ wr.ownsRow w.heap.size 5 1 s q (ub (encs ls k)) ∧ Below w2.heap.size w2 wr) (fun _ i _ => n - (intOf i).toNat)
    case atStart => exact ⟨0, 0, Nat.zero_le _, rfl, rfl, World.ownsRow_nil _ _ _ _, Below.refl _ _⟩
    case round =>
      obtain ⟨k, q, hk, rfl, Hq, hown, hb3⟩ := hrel
      have hqb : q ≤ 8192 := by have := encs_le (ls := ls) hk; have := Hq.out; have := Hel.out; omega
      obtain ⟨C, c3, rfl, _, hrC⟩ := own_rd hown
      by_cases hlt : k < n
      · obtain ⟨ad, l, D, d, rfl, hl2, hcell, hld, hrl2⟩ := (hrl.below hb3).at_ hlt
        have hml := Hmax.out l (List.mem_of_getElem? hl2)
        have hs3 := hb3.size
        have hs2 := hbel.size
        clear hown
        go_wp2_with fail
        refine (fput_calls C D q c3 l.length d (encs ls k) l _ hrC hrl2 hld (by omega) hml).mono ?_
        rintro e w4 ⟨⟨u, q2, rfl, hq2, hown2⟩, hb4⟩
        rw [← encs_next hl2] at hown2
        have Hq2 : Hid (q2 = (encs ls (k + 1)).length) := Lib.hid (by rw [encs_next hl2, List.length_append, enc_length, ← Hq.out]; omega)
        have hown3 := own_weaken hown2 (base' := w.heap.size) (by omega)
        have hb5 := below_then hb3 hb4
        clear hown2 hb4 hcell hrl2 hrC hl2 hq2
        go_wp2_with fail
        go_roundw
        case rel => exact ⟨k + 1, q2, hlt, by go_num, Hq2, hown3, hb5⟩
        case measure => simp [intOf]; omega
      · obtain rfl : k = n := by omega
        obtain rfl : q = good := by have := Hq.out; have := Hel.out; omega
        have hx3 := hx2.below hb3
        have hs3 := hb3.size
        have hs2 := hbel.size
        have hbel3 := hbel.trans (hb3.mono hs2)
        go_wp2_with fail
        refine (fnext_calls A m cap xs q _ hx3 hc (by omega) hbd.1).mono ?_
        rintro e w4 ⟨hp, hb4⟩
        rcases hp with ⟨h0, rfl⟩ | ⟨h0, _⟩
        · have hE : nextErr xs q ≤ 4 := by unfold nextErr; repeat' split
                                           all_goals omega
          have he0 : ((nextErr xs q : Int) != 0) = true := by rw [bne_iff_ne]; omega
          generalize nextErr xs q = E at *
          obtain ⟨A', hcut, hA'⟩ := cut_h (P := Try.prog) Try.underlying22 (size_of_info info_u8) A m cap q hbd.1 hc
          have hs1 := fun N : Nat => run_str (P := Try.prog) (dst := 9) Try.underlying22 Try.underlying5 Try.underlying9 ((hA' _ _ (hx3.below hb4)).below (below_drewN (Below.refl _ _) N)) cap
          have hs2 := fun N : Nat => run_str (P := Try.prog) (dst := 9) Try.underlying22 Try.underlying5 Try.underlying9 ((hrC.below hb4).below (below_drewN (Below.refl _ _) N)) c3
          rw [Henc.out] at hs1
          have hbel4 := below_then hbel3 hb4
          generalize txt (encs ls k) = S at *
          have hgi : (q : Int) ≤ m := by omega
          clear hA' hrC hown hx3
          go_wp2_with fail
          go_quiet (fail)
          go_wp2_with fail
          go_ret
          exact ⟨rfl, below_drewN hbel4 _⟩
        · exact absurd h0 Hend.out
  · go_wp2_with fail
    go_ret
    exact ⟨rfl, hb1⟩
end Go.Proofs.Ythidgeeomilhdaa
