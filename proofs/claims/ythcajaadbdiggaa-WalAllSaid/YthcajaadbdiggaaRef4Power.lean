/- Contract of Power of the document's disk. -/
import Derived.Test.YthcajaadbdiggaaRef4Ops
namespace Go.Proofs.Ythcajaadbdiggaa
set_option maxRecDepth 10000
open Go.RowKit

def upTo (k : Nat) : Int → Bool := fun g => decide (0 ≤ g ∧ g < (k : Int))
theorem upTo_succ (k : Nat) : (fun g => upTo k g || decide (g = (k : Int))) = upTo (k + 1) := by
  funext g
  unfold upTo
  by_cases h : g = (k : Int)
  · subst h; simp; omega
  · by_cases h2 : 0 ≤ g ∧ g < (k : Int)
    · simp [h2]; omega
    · simp [h, h2]; omega
theorem run_slice_txt {P : Program} {t : TypeId} (ht : P.underlying t = some .string) (xs : List UInt8) (l : Nat) (hl : l ≤ xs.length) (W : World) : (Instr.slice t (.string (txt xs)) none (some (.int .i64 (l : Int))) none).run P W = .ok (.string (txt (xs.take l))) W := by
  have h := run_slice_string_h (P := P) (w := W) (t := t) ht (s := txt xs) .i64 (l : Int) (by omega) (by rw [txt_size]; omega)
  rw [h]
  congr 2
  simp [txt, ByteArray.extract, ByteArray.copySlice]
set_option maxHeartbeats 2000000 in
theorem ref4power_calls (r : Nat) (D : DS) (A : Option Addr) (n cap : Nat) (zs : List Int) (w : World) (h : RefAt w r D) (hr : ∀ w', OnlyD r r w w' → Rd w' A n (zs.map (Value.int .i64)))
    (hz : ∀ z ∈ zs, -9223372036854775808 ≤ z ∧ z ≤ 9223372036854775807) (hn : n ≤ 1073741824) (hlv : D.lives < 1099511627776) :
    Calls Try.prog 34 #[.pointer (some ⟨r, 0, none⟩), .slice A n cap] w fun e w' => e = .returned (.tuple #[]) ∧ RefAt w' r (D.power zs) ∧ OnlyD r r w w' := by
  have hcut0 : D.cuts zs (upTo 0) = D := by
    have : upTo 0 = fun _ => false := by funext g; unfold upTo; simp
    rw [this]; rfl
  go_enter Try.func34, Try.ntmps34
  go_wp2_with fail
  go_loopw [4] (fun i wr => ∃ k : Nat, k ≤ 2 ∧ i = .int .i64 k ∧ RefAt wr r (D.cuts zs (upTo k)) ∧ OnlyD r r w wr) (fun i _ => 2 - (intOf i).toNat)
  case atStart => exact ⟨0, by decide, rfl, by rw [hcut0]; exact h, OnlyD.refl _ _ _⟩
  case round =>
    obtain ⟨k, hk, rfl, hR, ho⟩ := hrel
    by_cases hk2 : k < 2
    · have hf : (k : Int) = 0 ∨ (k : Int) = 1 := by omega
      obtain ⟨f0, f1, ff⟩ := RefAt.fileF hR.cells hf
      have hSf : upTo k (k : Int) = false := by unfold upTo; simp
      have hbf : (D.cuts zs (upTo k)).b (k : Int) = D.b k := by simp [DS.cuts, hSf]
      have hlf : (D.cuts zs (upTo k)).l (k : Int) = D.l k := by simp [DS.cuts, hSf]
      rw [hbf] at f0
      rw [hlf] at f1
      rw [Int.toNat_natCast] at f0 f1
      have hrW : Rd wr A n (zs.map (Value.int .i64)) := hr _ ho
      have hla := h.ok.last k
      have hsz := h.ok.size k
      have hcells := hR.cells
      have hokR := hR.ok
      have Hcp := Lib.hid (DS.cuts_put (D := D) zs (upTo k) hSf)
      rw [upTo_succ] at Hcp
      have hnl : newL D zs (k : Int) = D.l k + min (max (zs.getD k 0) 0).toNat ((D.b k).length - D.l k) := by unfold newL; rw [Int.toNat_natCast]
      clear hR hSf
      obtain ⟨m, hm⟩ : ∃ m, (D.b (k : Int)).length = m := ⟨_, rfl⟩
      have hlen : (txt (D.b (k : Int))).size = m := hm
      rw [hm] at hla hsz hnl
      generalize hxs : D.b (k : Int) = xs at *
      generalize hll : D.l (k : Int) = l at *
      have hk0 : (0 : Int) ≤ k := by omega
      have hk1 : (k : Int) < 2 := by omega
      by_cases hkn : k < n
      · obtain ⟨ad, u, rfl, hu, hcell⟩ := hrW.at_ hkn
        rw [List.getElem?_map] at hu
        obtain ⟨z, hzF, rfl⟩ := Option.map_eq_some_iff.1 hu
        have hzb := hz z (List.mem_of_getElem? hzF)
        rw [List.getD_eq_getElem?_getD, hzF, Option.getD_some] at hnl
        have hkn' : (k : Int) < n := by omega
        clear hu hzF
        by_cases hz0 : 0 < z
        · obtain ⟨q, hq⟩ : ∃ q : Nat, min z ((m : Int) - (l : Int)) = q := ⟨(min z ((m : Int) - (l : Int))).toNat, by omega⟩
          have hmn := fun W => run_min2 (P := Try.prog) #[3, 3] 3 z ((m : Int) - (l : Int)) W
          rw [hq] at hmn
          have hnew : newL D zs (k : Int) = l + q := by rw [hnl]; omega
          have hqm : l + q ≤ m := by omega
          clear hnl hq
          go_wp2_with fail
          go_quiet (fail)
          have hcY : (wr.drewN nq).heap[r]? = some (refCells (D.cuts zs (upTo k))) := hcells
          have hoY : OnlyD r r w (wr.drewN nq) := ho.trans (OnlyD.of_below (below_drewN (Below.refl _ _) nq))
          clear f0 f1 ff ho hcells hmn hrW
          generalize wr.drewN nq = Y at *
          obtain ⟨f0, f1, ff⟩ := RefAt.fileF hcY hf
          rw [hbf, Int.toNat_natCast] at f0
          rw [hlf, Int.toNat_natCast] at f1
          have hcU := ref_setL (w := Y.drew) hcY hf (l + q)
          have hoU := (hoY.trans (OnlyD.of_below (Below.refl _ _).drew)).setCell (2 + k) (.int .i64 ((l + q : Nat) : Int))
          rw [hbf, Int.toNat_natCast] at hcU
          obtain ⟨g0, g1, gf⟩ := RefAt.fileF hcU hf
          rw [(put_self _ _ _ _).1, Int.toNat_natCast] at g0
          rw [(put_self _ _ _ _).2, Int.toNat_natCast] at g1
          rw [show ((l + q : Nat) : Int) = (l : Int) + (q : Int) by omega] at hcU hoU g0 g1 gf
          go_wp2_with fail
          go_still_tail 13, (by kernel_rfl)
          go_wp2_with fail
          change Code.wp _ _ _ _ (Y.drew.setCell ⟨r, 2 + k, none⟩ (.int .i64 ((l : Int) + (q : Int))))
          clear f0 f1 ff hoY
          generalize Y.drew.setCell ⟨r, 2 + k, none⟩ (.int .i64 ((l : Int) + (q : Int))) = U at *
          have hcZ := ref_setB (w := U.drew) hcU hf (xs.take (l + q))
          have hoZ := (hoU.trans (OnlyD.of_below (Below.refl _ _).drew)).setCell k (.string (txt (xs.take (l + q))))
          rw [put_put, (put_self _ _ _ _).2, Int.toNat_natCast] at hcZ
          have hcp := Hcp.out
          rw [hnew] at hcp
          rw [hcp] at hcZ
          have HZ : Hid (RefAt (U.drew.setCell ⟨r, k, none⟩ (.string (txt (xs.take (l + q))))) r (D.cuts zs (upTo (k + 1)))) := Lib.hid ⟨hcZ, DS.cuts_ok h.ok zs _⟩
          have hsl := fun W => run_slice_txt (P := Try.prog) Try.underlying9 xs (l + q) (by rw [hm]; exact hqm) W
          rw [show ((l + q : Nat) : Int) = (l : Int) + (q : Int) by omega] at hsl
          have g0' : U.cell? ⟨r, k, none⟩ = some (.string (txt xs)) := g0
          clear hcZ hcp hcU hoU g0 hcY
          go_still_tail 18, (by kernel_rfl)
          go_wp2_with fail
          go_roundw
          case rel => exact ⟨k + 1, by omega, by go_num, HZ.out, hoZ⟩
          case measure => simp [intOf]; omega
        · have hz1 : z ≤ 0 := by omega
          obtain ⟨q, hq⟩ : ∃ q : Nat, min 0 ((m : Int) - (l : Int)) = q := ⟨0, by omega⟩
          have hmn := fun W => run_min2 (P := Try.prog) #[3, 3] 3 0 ((m : Int) - (l : Int)) W
          rw [hq] at hmn
          have hnew : newL D zs (k : Int) = l + q := by rw [hnl]; omega
          have hqm : l + q ≤ m := by omega
          clear hnl hq
          go_wp2_with fail
          go_quiet (fail)
          have hcY : (wr.drewN nq).heap[r]? = some (refCells (D.cuts zs (upTo k))) := hcells
          have hoY : OnlyD r r w (wr.drewN nq) := ho.trans (OnlyD.of_below (below_drewN (Below.refl _ _) nq))
          clear f0 f1 ff ho hcells hmn hrW
          generalize wr.drewN nq = Y at *
          obtain ⟨f0, f1, ff⟩ := RefAt.fileF hcY hf
          rw [hbf, Int.toNat_natCast] at f0
          rw [hlf, Int.toNat_natCast] at f1
          have hcU := ref_setL (w := Y.drew) hcY hf (l + q)
          have hoU := (hoY.trans (OnlyD.of_below (Below.refl _ _).drew)).setCell (2 + k) (.int .i64 ((l + q : Nat) : Int))
          rw [hbf, Int.toNat_natCast] at hcU
          obtain ⟨g0, g1, gf⟩ := RefAt.fileF hcU hf
          rw [(put_self _ _ _ _).1, Int.toNat_natCast] at g0
          rw [(put_self _ _ _ _).2, Int.toNat_natCast] at g1
          rw [show ((l + q : Nat) : Int) = (l : Int) + (q : Int) by omega] at hcU hoU g0 g1 gf
          go_wp2_with fail
          go_still_tail 13, (by kernel_rfl)
          go_wp2_with fail
          change Code.wp _ _ _ _ (Y.drew.setCell ⟨r, 2 + k, none⟩ (.int .i64 ((l : Int) + (q : Int))))
          clear f0 f1 ff hoY
          generalize Y.drew.setCell ⟨r, 2 + k, none⟩ (.int .i64 ((l : Int) + (q : Int))) = U at *
          have hcZ := ref_setB (w := U.drew) hcU hf (xs.take (l + q))
          have hoZ := (hoU.trans (OnlyD.of_below (Below.refl _ _).drew)).setCell k (.string (txt (xs.take (l + q))))
          rw [put_put, (put_self _ _ _ _).2, Int.toNat_natCast] at hcZ
          have hcp := Hcp.out
          rw [hnew] at hcp
          rw [hcp] at hcZ
          have HZ : Hid (RefAt (U.drew.setCell ⟨r, k, none⟩ (.string (txt (xs.take (l + q))))) r (D.cuts zs (upTo (k + 1)))) := Lib.hid ⟨hcZ, DS.cuts_ok h.ok zs _⟩
          have hsl := fun W => run_slice_txt (P := Try.prog) Try.underlying9 xs (l + q) (by rw [hm]; exact hqm) W
          rw [show ((l + q : Nat) : Int) = (l : Int) + (q : Int) by omega] at hsl
          have g0' : U.cell? ⟨r, k, none⟩ = some (.string (txt xs)) := g0
          clear hcZ hcp hcU hoU g0 hcY
          go_still_tail 18, (by kernel_rfl)
          go_wp2_with fail
          go_roundw
          case rel => exact ⟨k + 1, by omega, by go_num, HZ.out, hoZ⟩
          case measure => simp [intOf]; omega
      · have hkn' : (n : Int) ≤ k := by omega
        obtain ⟨q, hq⟩ : ∃ q : Nat, min 0 ((m : Int) - (l : Int)) = q := ⟨0, by omega⟩
        have hmn := fun W => run_min2 (P := Try.prog) #[3, 3] 3 0 ((m : Int) - (l : Int)) W
        rw [List.getD_eq_getElem?_getD, List.getElem?_eq_none (by have := (hr w (OnlyD.refl _ _ _)).1; rw [List.length_map] at this; omega), Option.getD_none] at hnl
        rw [hq] at hmn
        have hnew : newL D zs (k : Int) = l + q := by rw [hnl]; omega
        have hqm : l + q ≤ m := by omega
        clear hnl hq
        go_wp2_with fail
        go_quiet (fail)
        have hcY : (wr.drewN nq).heap[r]? = some (refCells (D.cuts zs (upTo k))) := hcells
        have hoY : OnlyD r r w (wr.drewN nq) := ho.trans (OnlyD.of_below (below_drewN (Below.refl _ _) nq))
        clear f0 f1 ff ho hcells hmn hrW
        generalize wr.drewN nq = Y at *
        obtain ⟨f0, f1, ff⟩ := RefAt.fileF hcY hf
        rw [hbf, Int.toNat_natCast] at f0
        rw [hlf, Int.toNat_natCast] at f1
        have hcU := ref_setL (w := Y.drew) hcY hf (l + q)
        have hoU := (hoY.trans (OnlyD.of_below (Below.refl _ _).drew)).setCell (2 + k) (.int .i64 ((l + q : Nat) : Int))
        rw [hbf, Int.toNat_natCast] at hcU
        obtain ⟨g0, g1, gf⟩ := RefAt.fileF hcU hf
        rw [(put_self _ _ _ _).1, Int.toNat_natCast] at g0
        rw [(put_self _ _ _ _).2, Int.toNat_natCast] at g1
        rw [show ((l + q : Nat) : Int) = (l : Int) + (q : Int) by omega] at hcU hoU g0 g1 gf
        go_wp2_with fail
        go_still_tail 13, (by kernel_rfl)
        go_wp2_with fail
        change Code.wp _ _ _ _ (Y.drew.setCell ⟨r, 2 + k, none⟩ (.int .i64 ((l : Int) + (q : Int))))
        clear f0 f1 ff hoY
        generalize Y.drew.setCell ⟨r, 2 + k, none⟩ (.int .i64 ((l : Int) + (q : Int))) = U at *
        have hcZ := ref_setB (w := U.drew) hcU hf (xs.take (l + q))
        have hoZ := (hoU.trans (OnlyD.of_below (Below.refl _ _).drew)).setCell k (.string (txt (xs.take (l + q))))
        rw [put_put, (put_self _ _ _ _).2, Int.toNat_natCast] at hcZ
        have hcp := Hcp.out
        rw [hnew] at hcp
        rw [hcp] at hcZ
        have HZ : Hid (RefAt (U.drew.setCell ⟨r, k, none⟩ (.string (txt (xs.take (l + q))))) r (D.cuts zs (upTo (k + 1)))) := Lib.hid ⟨hcZ, DS.cuts_ok h.ok zs _⟩
        have hsl := fun W => run_slice_txt (P := Try.prog) Try.underlying9 xs (l + q) (by rw [hm]; exact hqm) W
        rw [show ((l + q : Nat) : Int) = (l : Int) + (q : Int) by omega] at hsl
        have g0' : U.cell? ⟨r, k, none⟩ = some (.string (txt xs)) := g0
        clear hcZ hcp hcU hoU g0 hcY
        go_still_tail 18, (by kernel_rfl)
        go_wp2_with fail
        go_roundw
        case rel => exact ⟨k + 1, by omega, by go_num, HZ.out, hoZ⟩
        case measure => simp [intOf]; omega
    · obtain rfl : k = 2 := by omega
      have hS : upTo 2 = fun g => decide (g = 0 ∨ g = 1) := by
        funext g; unfold upTo
        by_cases hg : g = 0 ∨ g = 1
        · rw [decide_eq_true hg, decide_eq_true (by omega)]
        · rw [decide_eq_false hg, decide_eq_false (by omega)]
      rw [hS] at hR
      obtain ⟨c4, c5, c6, c7, cf⟩ := hR.cell
      have c6' : wr.cell? ⟨r, 6, none⟩ = some (.int .i64 (D.lives : Int)) := c6
      have hfin : RefAt (((wr.setCell ⟨r, 4, none⟩ (.bool false)).setCell ⟨r, 5, none⟩ (.int .i64 (-1))).setCell ⟨r, 6, none⟩ (.int .i64 ((D.lives : Int) + 1))) r (D.power zs) :=
        ⟨by rw [set_row (set_row (set_row hR.cells _ _) _ _)]; simp [refCells, DS.power, DS.cuts], ⟨hR.ok.last, hR.ok.size, by simp [DS.power], by simp [DS.power], by simp [DS.power]; omega, hR.ok.steps⟩⟩
      have ho2 := ((ho.setCell 4 (.bool false)).setCell 5 (.int .i64 (-1))).setCell 6 (.int .i64 ((D.lives : Int) + 1))
      clear hR c6
      go_wp2_with fail
      go_end0
      exact ⟨rfl, hfin, ho2⟩
end Go.Proofs.Ythcajaadbdiggaa
