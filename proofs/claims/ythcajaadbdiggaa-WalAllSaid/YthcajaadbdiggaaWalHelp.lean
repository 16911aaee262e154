/- Contracts of the helpers of the laws of wal: texts and alike. -/
import Derived.Test.YthcajaadbdiggaaWalLaws
import Derived.Test.YthcajaadbdiggaaLaw0
import Derived.Test.YthcajaadbdiggaaCutH
namespace Go.Proofs.Ythcajaadbdiggaa
set_option maxRecDepth 1000000
open Go.RowKit

abbrev sv (xs : List UInt8) : Value := .string (txt xs)
def svs (ls : List (List UInt8)) : List Value := ls.map sv
theorem svs_take {ls : List (List UInt8)} {k : Nat} {l : List UInt8} (h : ls[k]? = some l) : svs (ls.take (k + 1)) = svs (ls.take k) ++ [sv l] := by
  rw [List.take_add_one, h]; simp [svs]
theorem info_string : (Try.prog.info? 9).map (fun i => (i.zero, i.size, i.bytes)) = some (some (.string ⟨#[]⟩), 1, 16) := by kernel_rfl
theorem str_at {w : World} {A : Option Addr} {n : Nat} {ls : List (List UInt8)} (h : Rd w A n (svs ls)) {k : Nat} (hk : k < n) : ∃ ad l, A = some ad ∧ ls[k]? = some l ∧ w.cell? (ad.add k) = some (sv l) := by
  obtain ⟨ad, u, e, hu, hc⟩ := h.at_ hk
  unfold svs at hu
  rw [List.getElem?_map] at hu
  cases hz : ls[k]? with
  | none => rw [hz] at hu; cases hu
  | some z => rw [hz] at hu; injection hu with hu; subst hu; exact ⟨ad, z, e, rfl, hc⟩

set_option maxHeartbeats 1000000 in
theorem texts_calls (A : Option Addr) (n cap : Nat) (ls : List (List UInt8)) (w : World) (hr : RdL w A n ls) (hn : n ≤ 1073741824) :
    Calls Try.prog 29 #[.slice A n cap] w fun e w' => (∃ v, e = .returned v ∧ w'.ownsRow w.heap.size 9 1 v n (svs ls)) ∧ Below w.heap.size w w' := by
  go_enter Try.func29, Try.ntmps29
  go_wp2_with fail
  go_loopw [3, 4] (fun s i wr => ∃ k : Nat, k ≤ n ∧ i = .int .i64 k ∧ wr.ownsRow w.heap.size 9 1 s k (svs (ls.take k)) ∧ Below w.heap.size w wr) (fun _ i _ => n - (intOf i).toNat)
  case atStart => exact ⟨0, Nat.zero_le _, rfl, World.ownsRow_nil _ _ _ _, Below.refl _ _⟩
  case round =>
    obtain ⟨k, hk, rfl, hown, hbel⟩ := hrel
    by_cases hlt : k < n
    · obtain ⟨ad, l, B, c, rfl, hl, hcell, _, hrl⟩ := (hr.below hbel).at_ hlt
      have Hs := Lib.hid (svs_take hl)
      have hs1 : (convert 35 9 (.slice B l.length c)).run Try.prog wr = .ok (.string (txt l)) wr := run_str (P := Try.prog) (dst := 9) Try.underlying35 Try.underlying5 Try.underlying9 hrl c
      have hown2 := hown.alloc (.cells #[.string (txt l)] 9)
      have hr1 := rd_one wr (.string (txt l)) 9
      have hbel2 := hbel.alloc hbel.size (.cells #[.string (txt l)] 9)
      clear hown hrl hl
      go_wp2_with (at_builtin; refine wpList_app rfl _ _ _ rfl 9 (.string ⟨#[]⟩) 16 Try.underlying59 info_string rfl (by decide) w.heap.size rfl hown2 rfl hr1 (one_one rfl) ?_ ?_ ?_)
      case _ => omega
      case _ => have := hbel.size; simp; omega
      case _ =>
        intro v' w2 hown3 hg2 _
        rw [← Hs.out] at hown3
        have hb3 := hbel2.grown hg2 hbel2.size (fun k hk => (own_base hown2 k hk))
        clear hown2 hg2 hr1 hs1 hcell
        go_wp2
        go_roundw
        case rel => exact ⟨k + 1, by omega, by go_num, hown3, hb3⟩
        case measure => simp [intOf]; omega
    · obtain rfl : k = n := by omega
      rw [List.take_of_length_le (by have := hr.len; omega)] at hown
      go_wp2_with fail
      go_ret
      exact ⟨⟨_, rfl, hown⟩, hbel⟩

theorem txt_beq (a b : List UInt8) : ((txt a).toList == (txt b).toList) = (a == b) := by
  rw [show (txt a).toList = a from ByteArray.toList_mk a, show (txt b).toList = b from ByteArray.toList_mk b]
theorem take_succ_eq {us bs : List (List UInt8)} {k : Nat} {a b : List UInt8} (h : us.take k = bs.take k) (ha : us[k]? = some a) (hb : bs[k]? = some b) : (us.take (k + 1) = bs.take (k + 1)) ↔ a = b := by
  rw [List.take_add_one, List.take_add_one, ha, hb, h]; simp

set_option maxHeartbeats 2000000 in
theorem alike_calls (A B : Option Addr) (n m c1 c2 : Nat) (us bs : List (List UInt8)) (w : World) (ha : RdL w A n us) (hb : Rd w B m (svs bs)) (hn : n ≤ 140737488355328) (hm : m ≤ 140737488355328) :
    Calls Try.prog 28 #[.slice A n c1, .slice B m c2] w fun e w' => e = .returned (.bool (decide (us = bs))) ∧ ∃ q, w' = w.drewN q := by
  have hla := ha.len
  have hlb : bs.length = m := by have := hb.1; rwa [svs, List.length_map] at this
  by_cases hnm : n = m
  · subst hnm
    go_enter Try.func28, Try.ntmps28
    have HL := Lib.hid (And.intro hla hlb)
    clear hla hlb
    go_wp2_with fail
    go_loopw [5] (fun i wr => ∃ k : Nat, k ≤ n ∧ i = .int .i64 k ∧ us.take k = bs.take k ∧ ∃ m, wr = w.drewN m) (fun i _ => n - (intOf i).toNat)
    case atStart => exact ⟨0, Nat.zero_le _, rfl, rfl, 0, rfl⟩
    case round =>
      obtain ⟨k, hk, rfl, hpre, q, rfl⟩ := hrel
      by_cases hlt : k < n
      · obtain ⟨ad, l, B1, c, rfl, hl, hcell, _, hrl⟩ := ha.at_ hlt
        obtain ⟨ad2, l2, rfl, hl2, hcell2⟩ := str_at hb hlt
        have hs1 := fun q : Nat => (run_str (P := Try.prog) (dst := 9) Try.underlying35 Try.underlying5 Try.underlying9 (w := w.drewN q) hrl c)
        have Hx := Lib.hid (take_succ_eq hpre hl hl2)
        have Hn : Hid (l ≠ l2 → ¬ us = bs) := Lib.hid (fun h hh => by subst hh; rw [hl] at hl2; injection hl2 with h2; exact h h2)
        have hk0 : (0 : Int) ≤ k := by omega
        have hk1 : (k : Int) < n := by omega
        clear hpre hl hl2 hrl
        change w.cell? (ad2.add k) = some (.string (txt l2)) at hcell2
        by_cases he : l = l2
        · have hbq : ((txt l).toList == (txt l2).toList) = true := by rw [txt_beq, he]; simp
          have hpre2 := Hx.out.2 he
          clear he
          go_wp2_with fail
          go_quiet (fail)
          go_wp2_with fail
          go_roundw
          case rel => exact ⟨k + 1, by omega, by go_num, hpre2, _, rfl⟩
          case measure => simp [intOf]; omega
        · have hbq : ((txt l).toList == (txt l2).toList) = false := by rw [txt_beq]; simpa using he
          have Hd := Lib.hid (decide_eq_false (Hn.out he))
          clear he
          go_wp2_with fail
          go_quiet (fail)
          go_wp2_with fail
          go_ret
          refine ⟨by rw [Hd.out]; rfl, ?_⟩
          rw [World.drewN_drewN]
          exact ⟨_, rfl⟩
      · obtain rfl : k = n := by omega
        rw [List.take_of_length_le (by have := HL.out.1; omega), List.take_of_length_le (by have := HL.out.2; omega)] at hpre
        have Hd := Lib.hid (decide_eq_true hpre)
        clear hpre
        go_wp2_with fail
        go_ret
        refine ⟨by rw [Hd.out]; rfl, ?_⟩
        exact ⟨_, rfl⟩
  · have hd : decide (us = bs) = false := decide_eq_false (fun h => hnm (by subst h; omega))
    rw [hd]
    have hne : ((n : Int) != (m : Int)) = true := by rw [bne_iff_ne]; omega
    clear hd hnm hla hlb ha hb
    go_enter Try.func28, Try.ntmps28
    go_wp2_with fail
    go_ret
    exact ⟨rfl, 0, rfl⟩

theorem RdL.take {w : World} {A : Option Addr} {n m : Nat} {ls : List (List UInt8)} (h : RdL w A n ls) (hm : m ≤ n) : RdL w A m (ls.take m) := by
  refine ⟨by rw [List.length_take, h.1]; omega, fun h0 => ?_⟩
  obtain ⟨ad, e, hc⟩ := h.2 (by omega)
  refine ⟨ad, e, fun j l hl => hc j l ?_⟩
  rw [List.getElem?_take] at hl
  split at hl
  · exact hl
  · cases hl
theorem cut_l {P : Program} {t e : TypeId} (ht : P.underlying t = some (.slice e)) (hsz : (P.info? e).map (·.size) = some 1) (A : Option Addr) (n c m : Nat) (hm : m ≤ n) (hc : n ≤ c) :
    ∃ A' : Option Addr, (∀ W : World, (Instr.slice t (.slice A n c) none (some (.int .i64 (m : Int))) none).run P W = .ok (.slice A' m c) W) ∧ ∀ (w : World) (xs : List (List UInt8)), RdL w A n xs → RdL w A' m (xs.take m) := by
  obtain ⟨j, hj, hjs⟩ := Option.map_eq_some_iff.1 hsz
  refine ⟨if c = 0 then A else A.map (·.add 0), fun W => ?_, fun w xs h => ?_⟩
  · have hel : P.elem t = e := by simp [Program.elem, ht]
    have hu : P.underlying t = some (.slice (P.elem t)) := by rw [hel]; exact ht
    rw [run_slice_h W t A n c hu .i64 (m : Int) (Int.natCast_nonneg _) (by omega), hel]
    simp [sizeOf, typeInfo, hj, hjs, sliced, Result.andThen]
  · have h2 := h.take hm
    split
    · exact h2
    · refine ⟨h2.1, fun h0 => ?_⟩
      obtain ⟨ad, rfl, hcell⟩ := h2.2 h0
      exact ⟨ad.add 0, rfl, fun j u hu => by rw [add_zero']; exact hcell j u hu⟩
theorem bool_at {w : World} {A : Option Addr} {n : Nat} {zs : List Bool} (h : Rd w A n (zs.map Value.bool)) {k : Nat} (hk : k < n) : ∃ ad z, A = some ad ∧ w.cell? (ad.add k) = some (.bool z) := by
  obtain ⟨ad, u, e, hu, hc⟩ := h.at_ hk
  rw [List.getElem?_map] at hu
  cases hz : zs[k]? with
  | none => rw [hz] at hu; cases hu
  | some z => rw [hz] at hu; injection hu with hu; subst hu; exact ⟨ad, z, e, hc⟩
end Go.Proofs.Ythcajaadbdiggaa
