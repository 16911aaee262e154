/- Contract of the document's look at a file (printed by genlook5.py). -/
import Derived.Test.YthcajaadbdiggaaRef5App
import Derived.Test.YthcajaadbdiggaaStoreRow
import Derived.Deep.RegionLaw
namespace Go.Proofs.Ythcajaadbdiggaa
set_option maxRecDepth 1000000
open Go.RowKit

/-- what the document's look answers -/
def LookPost5 (w : World) (xs : List UInt8) (e : Ending) (w' : World) : Prop :=
  match lookOf xs with
  | some (g, recs, sp) => ∃ A c, e = .returned (.agg #[.bool true, .bool sp, .int .u64 (g : Int), .slice A recs.length c]) ∧ w'.ownsRow w.heap.size 9 1 (.slice A recs.length c) recs.length (svs recs)
  | none => ∃ (sp : Bool) (g : Nat) (A : Option Addr) (n c : Nat), e = .returned (.agg #[.bool false, .bool sp, .int .u64 (g : Int), .slice A n c])
theorem LookPost5.none_ {w : World} {xs : List UInt8} (h : lookOf xs = none) (sp : Bool) (g : Nat) (A : Option Addr) (n c : Nat) (w' : World) : LookPost5 w xs (.returned (.agg #[.bool false, .bool sp, .int .u64 (g : Int), .slice A n c])) w' := by
  unfold LookPost5; rw [h]; exact ⟨sp, g, A, n, c, rfl⟩
theorem LookPost5.some_ {w : World} {xs : List UInt8} {g : Nat} {recs : List (List UInt8)} {sp : Bool} (h : lookOf xs = some (g, recs, sp)) {A : Option Addr} {n c : Nat} {w' : World} (hn : n = recs.length) (ho : w'.ownsRow w.heap.size 9 1 (.slice A n c) n (svs recs)) :
    LookPost5 w xs (.returned (.agg #[.bool true, .bool sp, .int .u64 (g : Int), .slice A n c])) w' := by
  subst hn
  unfold LookPost5; rw [h]; exact ⟨A, c, rfl, ho⟩
def fileCells (wh sp : Bool) (g : Int) (v : Value) : Obj := .cells #[.bool wh, .bool sp, .int .u64 g, v] 105 (0, 0)
theorem sum_fixed (x : UInt8) : ((x.toNat : Nat) : Int) = 71 ↔ x = 71 := by
  constructor
  · intro h; apply UInt8.toNat_inj.1; have : ((71 : UInt8).toNat) = 71 := rfl; omega
  · rintro rfl; rfl
theorem txt_index (y : UInt8) (t : List UInt8) (W : World) : (Instr.index 9 (.string (txt (y :: t))) (.int .i64 0)).run Try.prog W = .ok (.int .u8 (y.toNat : Int)) W := by
  rw [run_index_string W 9 _ .i64 0 Try.underlying9, dif_pos ⟨by decide, by rw [txt_size]; simp⟩]
  rfl
theorem txt_rest (y : UInt8) (t : List UInt8) (W : World) : (Instr.slice 9 (.string (txt (y :: t))) (some (.int .i64 1)) none none).run Try.prog W = .ok (.string (txt t)) W := by
  rw [run_slice_string_l (P := Try.prog) (w := W) (t := 9) Try.underlying9 (s := txt (y :: t)) .i64 1 (by decide) (by rw [txt_size]; simp; omega)]
  congr 2
  apply ByteArray.ext
  rw [ByteArray.data_extract]
  apply Array.ext'
  simp [txt, ByteArray.size]

set_option maxHeartbeats 8000000 in
theorem look5_calls (xs : List UInt8) (w : World) (hm : xs.length ≤ 1073741824) :
    Calls Try.prog 61 #[.string (txt xs)] w fun e w' => LookPost5 w xs e w' ∧ Below w.heap.size w w' := by
  have hts := txt_size xs
  go_enter Try.func61, Try.ntmps61
  have hba := (Below.refl w.heap.size w).alloc (Nat.le_refl _) (.cells #[.bool false, .bool false, .int .u64 0, .slice none 0 0] 105)
  have hz0 := alloc_new w (.cells #[.bool false, .bool false, .int .u64 0, .slice none 0 0] 105) _ rfl
  obtain ⟨c1, W1, hcv, hcc, hrd1, hb1⟩ := str_bytes (w.alloc (.cells #[.bool false, .bool false, .int .u64 0, .slice none 0 0] 105)) xs
  go_wp2_with fail
  have hz1 := (hb1.block _ (heap_lt hz0)).trans hz0
  have hbw1 := below_then hba hb1
  have hw01 : w.heap.size < W1.heap.size := by have := heap_lt hz1; exact this
  have hsz0 : (w.alloc (.cells #[.bool false, .bool false, .int .u64 0, .slice none 0 0] 105)).heap.size = w.heap.size + 1 := by simp
  rw [hsz0] at hrd1
  clear hsz0
  refine (ref3scan_calls (some ⟨w.heap.size + 1, 0, none⟩) xs.length c1 xs W1 hrd1 hcc hm).mono ?_
  have hmb := scan_bound xs
  generalize hls : (scanOf xs).1 = ls at *
  generalize hgd : (scanOf xs).2 = gd at *
  rintro e w2 ⟨⟨B, m, c, G, cs, rfl, hmn, hmc, hown, hol⟩, hb2⟩
  have hz2 := (hb2.block _ (heap_lt hz1)).trans hz1
  have hmb : m ≤ 134217728 := by omega
  have hbel2 := below_then hbw1 hb2
  obtain ⟨B', c', hBe, _, hrd⟩ := own_rd hown
  injection hBe with e1 _ e3
  subst e1 e3
  have hpl := hol.pl
  clear hcv hcc hrd1 hb1 hba hz0 hz1 hbw1 hown hol hb2 hw01
  obtain ⟨sp, hsp⟩ : ∃ sp, decide (gd < xs.length) = sp := ⟨_, rfl⟩
  have hspi : decide ((gd : Int) < (xs.length : Int)) = sp := by rw [← hsp]; simp
  have hlook : lookOf xs = lookL ls sp := by unfold lookOf; rw [hls, hgd, hsp]
  have hbx := (Below.refl w2.heap.size w2).alloc (Nat.le_refl _) (.cells #[.bool false, .bool false, .int .u64 0, .slice none 0 0] 105)
  have x0 := alloc_new w2 (.cells #[.bool false, .bool false, .int .u64 0, .slice none 0 0] 105) _ rfl
  have hz3 := (hbx.block _ (heap_lt hz2)).trans hz2
  have hbel3 := below_then hbel2 hbx
  have hrd3 := hrd.below hbx
  have hpl3 := hpl.below hbx
  have Hlook := Lib.hid hlook
  have hw2 : w.heap.size < w2.heap.size := heap_lt hz2
  have Hz2 := Lib.hid hz2
  have Hrd := Lib.hid hrd
  have Hpl := Lib.hid hpl
  have Hbel2 := Lib.hid hbel2
  have Hspi := Lib.hid hspi
  have Hsp := Lib.hid hsp
  have Hbx := Lib.hid hbx
  have y0 : (w2.alloc (.cells #[.bool false, .bool false, .int .u64 0, .slice none 0 0] 105)).cell? ⟨w2.heap.size, 0, none⟩ = some (.bool false) := by rw [cell_row x0]; rfl
  have y1 : (w2.alloc (.cells #[.bool false, .bool false, .int .u64 0, .slice none 0 0] 105)).cell? ⟨w2.heap.size, 1, none⟩ = some (.bool false) := by rw [cell_row x0]; rfl
  have y2 : (w2.alloc (.cells #[.bool false, .bool false, .int .u64 0, .slice none 0 0] 105)).cell? ⟨w2.heap.size, 2, none⟩ = some (.int .u64 0) := by rw [cell_row x0]; rfl
  have y3 : (w2.alloc (.cells #[.bool false, .bool false, .int .u64 0, .slice none 0 0] 105)).cell? ⟨w2.heap.size, 3, none⟩ = some (.slice none 0 0) := by rw [cell_row x0]; rfl
  clear hlook hls hgd hz2 hrd hpl hbx hbel2 hspi hsp
  cases ls with
  | nil =>
    obtain rfl : m = 0 := hmn
    go_wp2_with (refine wpList_store4 rfl 105 _ _ rfl w.heap.size (.bool false) (.bool false) (.int .u64 0) (.slice none 0 0) rfl rfl hz3 (by kernel_rfl) ⟨rfl, rfl, rfl, rfl⟩ ?_)
    intro w9 hw9 ho9
    have hb9 := hbel3.trans (ho9.below (base := w.heap.size) (fun k hk => by injection hk with hk; omega))
    have Hfin : Hid (LookPost5 w xs (.returned (.agg #[.bool false, .bool false, .int .u64 0, .slice none 0 0])) w9) := Lib.hid (.none_ (g := 0) (Hlook.out) _ _ _ _ _)
    clear ho9
    go_wp2_with fail
    refine bodyPost_ret (results_cell_row rfl _ w9 w.heap.size 105 _ _ _ rfl hw9 Try.underlying105 rfl (by kernel_rfl)) rfl ?_
    exact ⟨Hfin.out, hb9⟩
  | cons g0 rs =>
    have hm0 : 0 < m := by rw [hmn]; exact Nat.succ_pos _
    have hm0' : (0 : Int) < m := by omega
    obtain ⟨ad, hBe, hcells⟩ := hrd3.2 hm0
    subst hBe
    obtain ⟨B0, c0, hc0, hc0c, hr0⟩ := hpl3.2 0 g0 rfl
    have hcell0 := hcells 0 _ hc0
    rw [add_zero'] at hcell0
    have Hmn := Lib.hid hmn
    have hmne : ((m : Int) == 0) = false := by rw [beq_eq_false_iff_ne]; omega
    clear hmn hcells hc0 hrd3 hpl3
    by_cases h9 : g0.length = 9
    · have hlen9 : (g0.length : Int) = 9 := by omega
      obtain ⟨ad0, x, rfl, hx0, hb0⟩ := hr0.byte (k := 0) (by omega)
      rw [add_zero'] at hb0
      have hhead : g0.head? = some x := by rw [List.head?_eq_getElem?]; exact hx0
      by_cases h71 : x = 71
      · subst h71
        have hx71 : (((71 : UInt8).toNat : Nat) : Int) = 71 := rfl
        rw [hx71] at hb0
        have hget := ref1get_calls (some ad0) g0.length c0 g0 1 8 _ hr0 (by omega) (by decide) (by decide) (by omega)
        generalize hv : rdbe ((g0.drop 1).take 8) = v at *
        rw [h9] at hget
        have hlt18 : v < 18446744073709551616 := by rw [← hv]; exact rdbe_small (n := 8) (by rw [List.length_take]; omega) (by decide)
        go_wp2_with fail
        clear y0 y1 y2 y3
        generalize w2.alloc (.cells #[.bool false, .bool false, .int .u64 0, .slice none 0 0] 105) = W3 at *
        refine hget.mono ?_
        rintro e W3' ⟨rfl, rfl⟩
        have k0 : W3.cell? ⟨w2.heap.size, 2, none⟩ = some (.int .u64 0) := by rw [cell_row x0]; rfl
        have kf := free_row x0 2
        have x1 := set_row x0 2 (.int .u64 (v : Int))
        have hb4 := hbel3.setCell (p := ⟨w2.heap.size, 2, none⟩) (Nat.le_of_lt hw2) (.int .u64 (v : Int))
        have hz4 : (W3.setCell ⟨w2.heap.size, 2, none⟩ (.int .u64 (v : Int))).heap[w.heap.size]? = some (.cells #[.bool false, .bool false, .int .u64 0, .slice none 0 0] 105 (0, 0)) := by rw [Below.heap_setCell _ _ _ _ (by simp; omega)]; exact hz3
        have y0 : (W3.setCell ⟨w2.heap.size, 2, none⟩ (.int .u64 (v : Int))).cell? ⟨w2.heap.size, 0, none⟩ = some (.bool false) := by rw [cell_row x1]; rfl
        have y1 : (W3.setCell ⟨w2.heap.size, 2, none⟩ (.int .u64 (v : Int))).cell? ⟨w2.heap.size, 1, none⟩ = some (.bool false) := by rw [cell_row x1]; rfl
        have y2 : (W3.setCell ⟨w2.heap.size, 2, none⟩ (.int .u64 (v : Int))).cell? ⟨w2.heap.size, 2, none⟩ = some (.int .u64 (v : Int)) := by rw [cell_row x1]; rfl
        have y3 : (W3.setCell ⟨w2.heap.size, 2, none⟩ (.int .u64 (v : Int))).cell? ⟨w2.heap.size, 3, none⟩ = some (.slice none 0 0) := by rw [cell_row x1]; rfl
        clear hget hb0 hcell0 hr0
        by_cases hv1 : v < 1
        · have hv1' : ((v : Int) < 1) = True := eq_true (by omega)
          have Hnone : Hid (lookOf xs = none) := Lib.hid (by rw [Hlook.out]; show (if _ then _ else _) = _; rw [if_neg (fun h => by have := h.2.2.1; rw [hv] at this; omega)])
          go_wp2_with (refine wpList_store4 rfl 105 _ _ rfl w.heap.size (.bool false) (.bool false) (.int .u64 (v : Int)) (.slice none 0 0) rfl rfl hz4 (by kernel_rfl) ⟨rfl, rfl, rfl, rfl⟩ ?_)
          intro w9 hw9 ho9
          have hb9 := hb4.trans (ho9.below (base := w.heap.size) (fun k hk => by injection hk with hk; omega))
          have Hfin : Hid (LookPost5 w xs (.returned (.agg #[.bool false, .bool false, .int .u64 (v : Int), .slice none 0 0])) w9) := Lib.hid (.none_ Hnone.out _ _ _ _ _ _)
          clear ho9
          go_wp2_with fail
          refine bodyPost_ret (results_cell_row rfl _ w9 w.heap.size 105 _ _ _ rfl hw9 Try.underlying105 rfl (by kernel_rfl)) rfl ?_
          exact ⟨Hfin.out, hb9⟩
        · have hv1' : ((v : Int) < 1) = False := eq_false (by omega)
          by_cases hv2 : 4611686018427387904 ≤ v
          · have hv2' : ((4611686018427387904 : Int) ≤ (v : Int)) = True := eq_true (by omega)
            have Hnone : Hid (lookOf xs = none) := Lib.hid (by rw [Hlook.out]; show (if _ then _ else _) = _; rw [if_neg (fun h => by have := h.2.2.2; rw [hv] at this; omega)])
            go_wp2_with (refine wpList_store4 rfl 105 _ _ rfl w.heap.size (.bool false) (.bool false) (.int .u64 (v : Int)) (.slice none 0 0) rfl rfl hz4 (by kernel_rfl) ⟨rfl, rfl, rfl, rfl⟩ ?_)
            intro w9 hw9 ho9
            have hb9 := hb4.trans (ho9.below (base := w.heap.size) (fun k hk => by injection hk with hk; omega))
            have Hfin : Hid (LookPost5 w xs (.returned (.agg #[.bool false, .bool false, .int .u64 (v : Int), .slice none 0 0])) w9) := Lib.hid (.none_ Hnone.out _ _ _ _ _ _)
            clear ho9
            go_wp2_with fail
            refine bodyPost_ret (results_cell_row rfl _ w9 w.heap.size 105 _ _ _ rfl hw9 Try.underlying105 rfl (by kernel_rfl)) rfl ?_
            exact ⟨Hfin.out, hb9⟩
          · have hv2' : ((4611686018427387904 : Int) ≤ (v : Int)) = False := eq_false (by omega)
            have Hlk : Hid (lookOf xs = if (walkR rs false).2.1 = true then some (v, (walkR rs false).1, (walkR rs false).2.2 || sp) else none) := Lib.hid (by
              rw [Hlook.out]; show (if _ then _ else _) = _
              rw [if_pos ⟨h9, hhead, by rw [hv]; omega, by rw [hv]; omega⟩, hv])
            have X1 : (W3.setCell ⟨w2.heap.size, 2, none⟩ (.int .u64 (v : Int))).heap[w2.heap.size]? = some (.cells #[.bool false, .bool false, .int .u64 (v : Int), .slice none 0 0] 105 (0, 0)) := by rw [x1]; rfl
            have hbL := Hbx.out.setCell (p := ⟨w2.heap.size, 2, none⟩) (Nat.le_refl _) (.int .u64 (v : Int))
            have hml : m = rs.length + 1 := Hmn.out
            have Hml := Lib.hid hml
            clear hv1 hv2 x0 x1 hz4 hb4 hz3 hbel3 hlen9 h9 hhead hv hx0 hmne hx71 hml hm0 hm0'
            go_wp2_with fail
            clear y0 y1 y2 y3 k0 kf
            go_loopw [6, 7] (fun i rv wr => ∃ (J j q : Nat) (wh : Bool) (acc : List (List UInt8)) (A9 : Option Addr) (c9 : Nat), Hid (j ≤ rs.length ∧ J = j + 1) ∧ i = .int .i64 (J : Int) ∧ Hid (wr.heap[w2.heap.size]? = some (.cells #[.bool wh, .bool false, .int .u64 (v : Int), .slice A9 q c9] 105 (0, 0))) ∧ wr.ownsRow (w2.heap.size + 1) 9 1 (.slice A9 q c9) q (svs acc) ∧ Hid (q ≤ j) ∧ Hid (walkR rs false = (acc ++ (walkR (rs.drop j) wh).1, (walkR (rs.drop j) wh).2)) ∧ Below w2.heap.size w2 wr) (fun i _ _ => m - (intOf i).toNat)
            case atStart => exact ⟨1, 0, 0, false, [], none, 0, ⟨Nat.zero_le _, rfl⟩, rfl, X1, World.ownsRow_nil _ _ _ _, Nat.le_refl _, (by simp : _ = _), hbL⟩
            case round =>
              clear X1 hbL Hbx
              obtain ⟨J, j, q, wh, acc, A9, c9, Hj, rfl, HX, hown, Hqj, HW, hbel⟩ := hrel
              by_cases hlt : j < rs.length
              · have Hlt := Lib.hid hlt
                obtain ⟨r, hr⟩ : ∃ r, rs[j]? = some r := ⟨_, List.getElem?_eq_getElem hlt⟩
                have hdrop : rs.drop j = r :: rs.drop (j + 1) := by
                  rw [List.drop_eq_getElem_cons hlt]
                  rw [List.getElem?_eq_getElem hlt] at hr
                  injection hr with hr
                  rw [hr]
                obtain ⟨Br, cr, hrc, hrcc, hrr⟩ := Hpl.out.2 (j + 1) r (by simpa using hr)
                obtain ⟨ad', e', hcells⟩ := (Hrd.out.below hbel).2 (by rw [Hml.out]; omega)
                injection e' with e'
                subst e'
                have hcell := hcells (j + 1) _ hrc
                rw [← Hj.out.2] at hcell
                have hrr2 := hrr.below hbel
                have hj1 : ((J : Int) < (m : Int)) := by have := Hml.out; have := Hj.out.2; omega
                have hj0 : (0 : Int) ≤ (J : Int) := by omega
                have hs1 : (convert 35 9 (.slice Br r.length cr)).run Try.prog wr = .ok (.string (txt r)) wr := run_str (P := Try.prog) (dst := 9) Try.underlying35 Try.underlying5 Try.underlying9 hrr2 cr
                have HW2 : Hid (walkR rs false = (acc ++ (walkR (r :: rs.drop (j + 1)) wh).1, (walkR (r :: rs.drop (j + 1)) wh).2)) := Lib.hid (by rw [← hdrop]; exact HW.out)
                have hX := HX.out
                have hc0 : wr.cell? ⟨w2.heap.size, 0, none⟩ = some (.bool wh) := by rw [cell_row hX]; rfl
                have hc3 : wr.cell? ⟨w2.heap.size, 3, none⟩ = some (.slice A9 q c9) := by rw [cell_row hX]; rfl
                clear hr hdrop hrc hrcc hrr hcells hrr2 HW hlt
                cases r with
                | nil =>
                  have htn : (txt [] : ByteArray) = ⟨#[]⟩ := rfl
                  have hl0 : ([] : List UInt8).length = 0 := rfl
                  rw [htn, hl0] at hs1
                  rw [hl0] at hcell
                  clear htn hl0
                  cases wh with
                  | true =>
                    have HW3 : Hid (walkR rs false = (acc, true, true)) := Lib.hid (by rw [HW2.out]; simp [walkR])
                    clear HW2
                    have x8 := set_row hX 1 (.bool true)
                    have hxf := free_row hX 1
                    have hxc1 : wr.cell? ⟨w2.heap.size, 1, none⟩ = some (.bool false) := by rw [cell_row hX]; rfl
                    have z0 : (wr.setCell ⟨w2.heap.size, 1, none⟩ (.bool true)).cell? ⟨w2.heap.size, 0, none⟩ = some (.bool true) := by rw [cell_row x8]; rfl
                    have z1 : (wr.setCell ⟨w2.heap.size, 1, none⟩ (.bool true)).cell? ⟨w2.heap.size, 1, none⟩ = some (.bool true) := by rw [cell_row x8]; rfl
                    have z2 : (wr.setCell ⟨w2.heap.size, 1, none⟩ (.bool true)).cell? ⟨w2.heap.size, 2, none⟩ = some (.int .u64 (v : Int)) := by rw [cell_row x8]; rfl
                    have z3 : (wr.setCell ⟨w2.heap.size, 1, none⟩ (.bool true)).cell? ⟨w2.heap.size, 3, none⟩ = some (.slice A9 q c9) := by rw [cell_row x8]; rfl
                    have hzr := (hbel.block _ hw2).trans Hz2.out
                    have hz8 : (wr.setCell ⟨w2.heap.size, 1, none⟩ (.bool true)).heap[w.heap.size]? = some (.cells #[.bool false, .bool false, .int .u64 0, .slice none 0 0] 105 (0, 0)) := by rw [Below.heap_setCell _ _ _ _ (by simp; omega)]; exact hzr
                    have hb8 := hbel.setCell (p := ⟨w2.heap.size, 1, none⟩) (Nat.le_refl _) (.bool true)
                    have hbw8 := Hbel2.out.trans (hb8.mono Hbel2.out.size)
                    have ho8 := own_at (w' := wr.setCell ⟨w2.heap.size, 1, none⟩ (.bool true)) hown (fun k hk e => Below.heap_setCell _ _ _ _ (by have := (hown.lt k e).1; simp; omega))
                    have hql : q = acc.length := by have := hown.1; rw [svs, List.length_map] at this; omega
                    have Hql := Lib.hid hql
                    clear hX x8 hown hbel hb8 hzr hql
                    go_wp2_with (refine wpList_store4 rfl 105 _ _ rfl w.heap.size (.bool true) (.bool true) (.int .u64 (v : Int)) (.slice A9 q c9) rfl rfl hz8 (by kernel_rfl) ⟨rfl, rfl, rfl, rfl⟩ ?_)
                    intro w9 hw9 ho9
                    have hb9 := hbw8.trans (ho9.below (base := w.heap.size) (fun k hk => by injection hk with hk; omega))
                    have ho9' := own_at (w' := w9) ho8 (fun k hk e => ho9.block k (fun e2 => by
                      injection e2 with e2
                      have := (ho8.lt k e).1
                      omega))
                    have Hfin : Hid (LookPost5 w xs (.returned (.agg #[.bool true, (.bool true), .int .u64 (v : Int), .slice A9 q c9])) w9) := Lib.hid (.some_ (recs := acc) (sp := true) (by have := Hlk.out; rw [HW3.out] at this; simpa using this) Hql.out (own_lower ho9' (by omega)))
                    clear ho9'
                    clear ho9
                    go_wp2_with fail
                    refine bodyPost_ret (results_cell_row rfl _ w9 w.heap.size 105 _ _ _ rfl hw9 Try.underlying105 rfl (by kernel_rfl)) rfl ?_
                    exact ⟨Hfin.out, hb9⟩
                  | false =>
                    have HW3 : Hid (walkR rs false = (acc, false, true)) := Lib.hid (by rw [HW2.out]; simp [walkR])
                    clear HW2
                    have x8 := set_row hX 1 (.bool true)
                    have hxf := free_row hX 1
                    have hxc1 : wr.cell? ⟨w2.heap.size, 1, none⟩ = some (.bool false) := by rw [cell_row hX]; rfl
                    have z0 : (wr.setCell ⟨w2.heap.size, 1, none⟩ (.bool true)).cell? ⟨w2.heap.size, 0, none⟩ = some (.bool false) := by rw [cell_row x8]; rfl
                    have z1 : (wr.setCell ⟨w2.heap.size, 1, none⟩ (.bool true)).cell? ⟨w2.heap.size, 1, none⟩ = some (.bool true) := by rw [cell_row x8]; rfl
                    have z2 : (wr.setCell ⟨w2.heap.size, 1, none⟩ (.bool true)).cell? ⟨w2.heap.size, 2, none⟩ = some (.int .u64 (v : Int)) := by rw [cell_row x8]; rfl
                    have z3 : (wr.setCell ⟨w2.heap.size, 1, none⟩ (.bool true)).cell? ⟨w2.heap.size, 3, none⟩ = some (.slice A9 q c9) := by rw [cell_row x8]; rfl
                    have hzr := (hbel.block _ hw2).trans Hz2.out
                    have hz8 : (wr.setCell ⟨w2.heap.size, 1, none⟩ (.bool true)).heap[w.heap.size]? = some (.cells #[.bool false, .bool false, .int .u64 0, .slice none 0 0] 105 (0, 0)) := by rw [Below.heap_setCell _ _ _ _ (by simp; omega)]; exact hzr
                    have hb8 := hbel.setCell (p := ⟨w2.heap.size, 1, none⟩) (Nat.le_refl _) (.bool true)
                    have hbw8 := Hbel2.out.trans (hb8.mono Hbel2.out.size)
                    have ho8 := own_at (w' := wr.setCell ⟨w2.heap.size, 1, none⟩ (.bool true)) hown (fun k hk e => Below.heap_setCell _ _ _ _ (by have := (hown.lt k e).1; simp; omega))
                    have hql : q = acc.length := by have := hown.1; rw [svs, List.length_map] at this; omega
                    have Hql := Lib.hid hql
                    clear hX x8 hown hbel hb8 hzr hql
                    go_wp2_with (refine wpList_store4 rfl 105 _ _ rfl w.heap.size (.bool false) (.bool true) (.int .u64 (v : Int)) (.slice A9 q c9) rfl rfl hz8 (by kernel_rfl) ⟨rfl, rfl, rfl, rfl⟩ ?_)
                    intro w9 hw9 ho9
                    have hb9 := hbw8.trans (ho9.below (base := w.heap.size) (fun k hk => by injection hk with hk; omega))
                    have Hfin : Hid (LookPost5 w xs (.returned (.agg #[.bool false, (.bool true), .int .u64 (v : Int), .slice A9 q c9])) w9) := Lib.hid (.none_ (by have := Hlk.out; rw [HW3.out] at this; simpa using this) _ _ _ _ _ _)
                    clear ho9
                    go_wp2_with fail
                    refine bodyPost_ret (results_cell_row rfl _ w9 w.heap.size 105 _ _ _ rfl hw9 Try.underlying105 rfl (by kernel_rfl)) rfl ?_
                    exact ⟨Hfin.out, hb9⟩
                | cons y t =>
                  have hix := txt_index y t wr
                  have hlt1 : ((y :: t : List UInt8)).length = t.length + 1 := rfl
                  rw [hlt1] at hs1 hcell
                  clear hlt1
                  by_cases h82 : y = 82
                  · subst h82
                    have hn1 : ((txt (82 :: t)).toList == [69]) = false := by rw [show (txt (82 :: t)).toList = 82 :: t from ByteArray.toList_mk _]; rfl
                    have hn2 : ((txt (82 :: t)).toList == []) = false := by rw [show (txt (82 :: t)).toList = 82 :: t from ByteArray.toList_mk _]; rfl
                    have h82i : (((82 : UInt8).toNat : Nat) : Int) = 82 := rfl
                    rw [h82i] at hix
                    have hcut := fun W => txt_rest 82 t W
                    have HW3 : Hid (walkR rs false = ((acc ++ [t]) ++ (walkR (rs.drop (j + 1)) wh).1, (walkR (rs.drop (j + 1)) wh).2)) := Lib.hid (by rw [HW2.out]; simp [walkR])
                    obtain ⟨i0, hi0, hzi0, hzi1, hzi2⟩ := info_parts info_string
                    have hown2 : (wr.drew.alloc (.cells #[.string (txt t)] 9)).ownsRow (w2.heap.size + 1) 9 1 (.slice A9 q c9) q (svs acc) := World.ownsRow.alloc (w := wr.drew) hown _
                    have hr1 : Rd (wr.drew.alloc (.cells #[.string (txt t)] 9)) (some ⟨wr.heap.size, 0, none⟩) 1 [.string (txt t)] := rd_one wr.drew _ 9
                    have hbA : Below w2.heap.size w2 (wr.drew.alloc (.cells #[.string (txt t)] 9)) := hbel.drew.alloc hbel.size _
                    have hsA : w2.heap.size + 1 ≤ (wr.drew.alloc (.cells #[.string (txt t)] 9)).heap.size := by have := heap_lt HX.out; simp; omega
                    have hxA : (wr.drew.alloc (.cells #[.string (txt t)] 9)).heap[w2.heap.size]? = some (.cells #[.bool wh, .bool false, .int .u64 (v : Int), .slice A9 q c9] 105 (0, 0)) := alloc_old (w := wr.drew) HX.out
                    have hcA : (wr.alloc (.cells #[.string (txt t)] 9)).cell? ⟨w2.heap.size, 3, none⟩ = some (.slice A9 q c9) := by rw [cell_row (alloc_old (w := wr) HX.out)]; rfl
                    have HxA := Lib.hid hxA
                    have HbA := Lib.hid hbA
                    have HoA := Lib.hid hown2
                    have HrA := Lib.hid hr1
                    have Hs1 : Hid (q + 1 ≤ maxLen) := Lib.hid (by have := Hqj.out; have := Hlt.out; have := Hml.out; unfold maxLen; omega)
                    have Hs2 : Hid ((q + 1) * 16 ≤ 140737488355328) := Lib.hid (by have := Hqj.out; have := Hlt.out; have := Hml.out; omega)
                    have Hs3 := Lib.hid hsA
                    clear hown hown2 hr1 hbA hsA hxA hX HW2 hbel
                    go_wp2_with fail
                    go_region_law (
                      refine step_append_any _ rfl (.tmp 79) (.tmp 82) 59 rfl (w2.heap.size + 1) 9 i0 (.string ⟨#[]⟩) 1 16 Try.underlying59 hi0 hzi0 hzi1 hzi2 rfl (by decide) (.slice A9 q c9) q (svs acc) (by simp [Act.eval, Act.put]) HoA.out (some ⟨wr.heap.size, 0, none⟩) 1 1 [.string (txt t)] (by simp [Act.eval, Act.put]) HrA.out rfl (one_one rfl) Hs1.out Hs2.out Hs3.out ?_
                      intro v6 w6 hown6 hg6 _
                      have x6 := (hg6.block w2.heap.size (heap_lt HxA.out) (fun e => by have := (HoA.out.lt _ e.symm).1; omega)).trans HxA.out
                      have c6 : w6.cell? ⟨w2.heap.size, 3, none⟩ = some (.slice A9 q c9) := by rw [cell_row x6]; rfl
                      have f6 := free_row x6 3
                      obtain ⟨B6, cc6, rfl, _, _⟩ := own_rd hown6
                      have H6 := Lib.hid (And.intro hown6 (And.intro hg6 x6))
                      clear hown6 hg6 x6)
                    all_goals
                      obtain ⟨o6, g6, x6⟩ := H6.out
                      have hb6 := Below.grown (w := wr.drew.alloc (.cells #[.string (txt t)] 9)) HbA.out g6 HbA.out.size (fun k hk => by have := (HoA.out.lt k hk).1; omega)
                      have hb7 := hb6.setCell (p := ⟨w2.heap.size, 3, none⟩) (Nat.le_refl _) (.slice B6 (q + 1) cc6)
                      have X7 : Hid ((w6.setCell ⟨w2.heap.size, 3, none⟩ (.slice B6 (q + 1) cc6)).heap[w2.heap.size]? = some (.cells #[.bool wh, .bool false, .int .u64 (v : Int), .slice B6 (q + 1) cc6] 105 (0, 0))) := Lib.hid (by rw [set_row x6]; rfl)
                      have o7 : (w6.setCell ⟨w2.heap.size, 3, none⟩ (.slice B6 (q + 1) cc6)).ownsRow (w2.heap.size + 1) 9 1 (.slice B6 (q + 1) cc6) (q + 1) (svs (acc ++ [t])) := by
                        rw [svs, List.map_append]
                        exact own_at o6 (fun k hk e => Below.heap_setCell _ _ _ _ (by have := (o6.lt k e).1; simp; omega))
                      have Hq7 : Hid (q + 1 ≤ j + 1) := Lib.hid (by have := Hqj.out; omega)
                      clear H6 o6 g6 x6 hb6 HbA HoA HrA HxA HX hcA hc0 hc3 f6 c6
                      generalize w6.setCell ⟨w2.heap.size, 3, none⟩ (.slice B6 (q + 1) cc6) = w7 at *
                      go_wp2_with fail
                      go_roundw
                      case rel => exact ⟨J + 1, j + 1, q + 1, wh, _, _, _, ⟨Hlt.out, by have := Hj.out.2; omega⟩, by go_num, X7, o7, Hq7, HW3, hb7⟩
                      case measure => have := Hlt.out; have := Hml.out; have := Hj.out.2; simp [intOf]; omega
                  · have h82n : (((y.toNat : Nat) : Int) != 82) = true := by
                      rw [bne_iff_ne]
                      intro h
                      apply h82
                      apply UInt8.toNat_inj.1
                      have : ((82 : UInt8).toNat) = 82 := rfl
                      omega
                    have hn2 : ((txt (y :: t)).toList == []) = false := by rw [show (txt (y :: t)).toList = y :: t from ByteArray.toList_mk _]; rfl
                    by_cases hE : (y :: t : List UInt8) = [69]
                    · injection hE with hy ht
                      subst hy ht
                      have htE : txt [69] = (⟨#[69]⟩ : ByteArray) := rfl
                      have h69i : (((69 : UInt8).toNat : Nat) : Int) = 69 := rfl
                      have hl1 : ([] : List UInt8).length + 1 = 1 := rfl
                      rw [htE, h69i] at hix
                      rw [htE, hl1] at hs1
                      rw [hl1] at hcell
                      clear hn2 htE h82n h69i hl1
                      cases wh with
                      | true =>
                        have HW3 : Hid (walkR rs false = (acc, true, true)) := Lib.hid (by rw [HW2.out]; simp [walkR])
                        clear HW2
                        have x8 := set_row hX 1 (.bool true)
                        have hxf := free_row hX 1
                        have hxc1 : wr.cell? ⟨w2.heap.size, 1, none⟩ = some (.bool false) := by rw [cell_row hX]; rfl
                        have z0 : (wr.setCell ⟨w2.heap.size, 1, none⟩ (.bool true)).cell? ⟨w2.heap.size, 0, none⟩ = some (.bool true) := by rw [cell_row x8]; rfl
                        have z1 : (wr.setCell ⟨w2.heap.size, 1, none⟩ (.bool true)).cell? ⟨w2.heap.size, 1, none⟩ = some (.bool true) := by rw [cell_row x8]; rfl
                        have z2 : (wr.setCell ⟨w2.heap.size, 1, none⟩ (.bool true)).cell? ⟨w2.heap.size, 2, none⟩ = some (.int .u64 (v : Int)) := by rw [cell_row x8]; rfl
                        have z3 : (wr.setCell ⟨w2.heap.size, 1, none⟩ (.bool true)).cell? ⟨w2.heap.size, 3, none⟩ = some (.slice A9 q c9) := by rw [cell_row x8]; rfl
                        have hzr := (hbel.block _ hw2).trans Hz2.out
                        have hz8 : (wr.setCell ⟨w2.heap.size, 1, none⟩ (.bool true)).heap[w.heap.size]? = some (.cells #[.bool false, .bool false, .int .u64 0, .slice none 0 0] 105 (0, 0)) := by rw [Below.heap_setCell _ _ _ _ (by simp; omega)]; exact hzr
                        have hb8 := hbel.setCell (p := ⟨w2.heap.size, 1, none⟩) (Nat.le_refl _) (.bool true)
                        have hbw8 := Hbel2.out.trans (hb8.mono Hbel2.out.size)
                        have ho8 := own_at (w' := wr.setCell ⟨w2.heap.size, 1, none⟩ (.bool true)) hown (fun k hk e => Below.heap_setCell _ _ _ _ (by have := (hown.lt k e).1; simp; omega))
                        have hql : q = acc.length := by have := hown.1; rw [svs, List.length_map] at this; omega
                        have Hql := Lib.hid hql
                        clear hX x8 hown hbel hb8 hzr hql
                        go_wp2_with (refine wpList_store4 rfl 105 _ _ rfl w.heap.size (.bool true) (.bool true) (.int .u64 (v : Int)) (.slice A9 q c9) rfl rfl hz8 (by kernel_rfl) ⟨rfl, rfl, rfl, rfl⟩ ?_)
                        intro w9 hw9 ho9
                        have hb9 := hbw8.trans (ho9.below (base := w.heap.size) (fun k hk => by injection hk with hk; omega))
                        have ho9' := own_at (w' := w9) ho8 (fun k hk e => ho9.block k (fun e2 => by
                          injection e2 with e2
                          have := (ho8.lt k e).1
                          omega))
                        have Hfin : Hid (LookPost5 w xs (.returned (.agg #[.bool true, (.bool true), .int .u64 (v : Int), .slice A9 q c9])) w9) := Lib.hid (.some_ (recs := acc) (sp := true) (by have := Hlk.out; rw [HW3.out] at this; simpa using this) Hql.out (own_lower ho9' (by omega)))
                        clear ho9'
                        clear ho9
                        go_wp2_with fail
                        refine bodyPost_ret (results_cell_row rfl _ w9 w.heap.size 105 _ _ _ rfl hw9 Try.underlying105 rfl (by kernel_rfl)) rfl ?_
                        exact ⟨Hfin.out, hb9⟩
                      | false =>
                        have HW3 : Hid (walkR rs false = (acc ++ (walkR (rs.drop (j + 1)) true).1, (walkR (rs.drop (j + 1)) true).2)) := Lib.hid (by rw [HW2.out]; simp [walkR])
                        have x8 := set_row hX 0 (.bool true)
                        have hxf := free_row hX 0
                        have X7 : Hid ((wr.setCell ⟨w2.heap.size, 0, none⟩ (.bool true)).heap[w2.heap.size]? = some (.cells #[.bool true, .bool false, .int .u64 (v : Int), .slice A9 q c9] 105 (0, 0))) := Lib.hid (by rw [x8]; rfl)
                        have o7 := own_at (w' := wr.setCell ⟨w2.heap.size, 0, none⟩ (.bool true)) hown (fun k hk e => Below.heap_setCell _ _ _ _ (by have := (hown.lt k e).1; simp; omega))
                        have hb7 := hbel.setCell (p := ⟨w2.heap.size, 0, none⟩) (Nat.le_refl _) (.bool true)
                        have Hq7 : Hid (q ≤ j + 1) := Lib.hid (by have := Hqj.out; omega)
                        clear hX x8 hown hbel HW2 HX
                        go_wp2_with fail
                        go_roundw
                        case rel => exact ⟨J + 1, j + 1, q, true, _, _, _, ⟨Hlt.out, by have := Hj.out.2; omega⟩, by go_num, X7, o7, Hq7, HW3, hb7⟩
                        case measure => have := Hlt.out; have := Hml.out; have := Hj.out.2; simp [intOf]; omega
                    · have hn1 : ((txt (y :: t)).toList == [69]) = false := by
                        rw [show (txt (y :: t)).toList = y :: t from ByteArray.toList_mk _, beq_eq_false_iff_ne]; exact hE
                      cases wh with
                      | true =>
                        have HW3 : Hid (walkR rs false = (acc, true, true)) := Lib.hid (by rw [HW2.out]; simp [walkR, h82, hE])
                        clear HW2
                        have x8 := set_row hX 1 (.bool true)
                        have hxf := free_row hX 1
                        have hxc1 : wr.cell? ⟨w2.heap.size, 1, none⟩ = some (.bool false) := by rw [cell_row hX]; rfl
                        have z0 : (wr.setCell ⟨w2.heap.size, 1, none⟩ (.bool true)).cell? ⟨w2.heap.size, 0, none⟩ = some (.bool true) := by rw [cell_row x8]; rfl
                        have z1 : (wr.setCell ⟨w2.heap.size, 1, none⟩ (.bool true)).cell? ⟨w2.heap.size, 1, none⟩ = some (.bool true) := by rw [cell_row x8]; rfl
                        have z2 : (wr.setCell ⟨w2.heap.size, 1, none⟩ (.bool true)).cell? ⟨w2.heap.size, 2, none⟩ = some (.int .u64 (v : Int)) := by rw [cell_row x8]; rfl
                        have z3 : (wr.setCell ⟨w2.heap.size, 1, none⟩ (.bool true)).cell? ⟨w2.heap.size, 3, none⟩ = some (.slice A9 q c9) := by rw [cell_row x8]; rfl
                        have hzr := (hbel.block _ hw2).trans Hz2.out
                        have hz8 : (wr.setCell ⟨w2.heap.size, 1, none⟩ (.bool true)).heap[w.heap.size]? = some (.cells #[.bool false, .bool false, .int .u64 0, .slice none 0 0] 105 (0, 0)) := by rw [Below.heap_setCell _ _ _ _ (by simp; omega)]; exact hzr
                        have hb8 := hbel.setCell (p := ⟨w2.heap.size, 1, none⟩) (Nat.le_refl _) (.bool true)
                        have hbw8 := Hbel2.out.trans (hb8.mono Hbel2.out.size)
                        have ho8 := own_at (w' := wr.setCell ⟨w2.heap.size, 1, none⟩ (.bool true)) hown (fun k hk e => Below.heap_setCell _ _ _ _ (by have := (hown.lt k e).1; simp; omega))
                        have hql : q = acc.length := by have := hown.1; rw [svs, List.length_map] at this; omega
                        have Hql := Lib.hid hql
                        clear hX x8 hown hbel hb8 hzr hql
                        go_wp2_with (refine wpList_store4 rfl 105 _ _ rfl w.heap.size (.bool true) (.bool true) (.int .u64 (v : Int)) (.slice A9 q c9) rfl rfl hz8 (by kernel_rfl) ⟨rfl, rfl, rfl, rfl⟩ ?_)
                        intro w9 hw9 ho9
                        have hb9 := hbw8.trans (ho9.below (base := w.heap.size) (fun k hk => by injection hk with hk; omega))
                        have ho9' := own_at (w' := w9) ho8 (fun k hk e => ho9.block k (fun e2 => by
                          injection e2 with e2
                          have := (ho8.lt k e).1
                          omega))
                        have Hfin : Hid (LookPost5 w xs (.returned (.agg #[.bool true, (.bool true), .int .u64 (v : Int), .slice A9 q c9])) w9) := Lib.hid (.some_ (recs := acc) (sp := true) (by have := Hlk.out; rw [HW3.out] at this; simpa using this) Hql.out (own_lower ho9' (by omega)))
                        clear ho9'
                        clear ho9
                        go_wp2_with fail
                        refine bodyPost_ret (results_cell_row rfl _ w9 w.heap.size 105 _ _ _ rfl hw9 Try.underlying105 rfl (by kernel_rfl)) rfl ?_
                        exact ⟨Hfin.out, hb9⟩
                      | false =>
                        have HW3 : Hid (walkR rs false = (acc, false, true)) := Lib.hid (by rw [HW2.out]; simp [walkR, h82, hE])
                        clear HW2
                        have x8 := set_row hX 1 (.bool true)
                        have hxf := free_row hX 1
                        have hxc1 : wr.cell? ⟨w2.heap.size, 1, none⟩ = some (.bool false) := by rw [cell_row hX]; rfl
                        have z0 : (wr.setCell ⟨w2.heap.size, 1, none⟩ (.bool true)).cell? ⟨w2.heap.size, 0, none⟩ = some (.bool false) := by rw [cell_row x8]; rfl
                        have z1 : (wr.setCell ⟨w2.heap.size, 1, none⟩ (.bool true)).cell? ⟨w2.heap.size, 1, none⟩ = some (.bool true) := by rw [cell_row x8]; rfl
                        have z2 : (wr.setCell ⟨w2.heap.size, 1, none⟩ (.bool true)).cell? ⟨w2.heap.size, 2, none⟩ = some (.int .u64 (v : Int)) := by rw [cell_row x8]; rfl
                        have z3 : (wr.setCell ⟨w2.heap.size, 1, none⟩ (.bool true)).cell? ⟨w2.heap.size, 3, none⟩ = some (.slice A9 q c9) := by rw [cell_row x8]; rfl
                        have hzr := (hbel.block _ hw2).trans Hz2.out
                        have hz8 : (wr.setCell ⟨w2.heap.size, 1, none⟩ (.bool true)).heap[w.heap.size]? = some (.cells #[.bool false, .bool false, .int .u64 0, .slice none 0 0] 105 (0, 0)) := by rw [Below.heap_setCell _ _ _ _ (by simp; omega)]; exact hzr
                        have hb8 := hbel.setCell (p := ⟨w2.heap.size, 1, none⟩) (Nat.le_refl _) (.bool true)
                        have hbw8 := Hbel2.out.trans (hb8.mono Hbel2.out.size)
                        have ho8 := own_at (w' := wr.setCell ⟨w2.heap.size, 1, none⟩ (.bool true)) hown (fun k hk e => Below.heap_setCell _ _ _ _ (by have := (hown.lt k e).1; simp; omega))
                        have hql : q = acc.length := by have := hown.1; rw [svs, List.length_map] at this; omega
                        have Hql := Lib.hid hql
                        clear hX x8 hown hbel hb8 hzr hql
                        go_wp2_with (refine wpList_store4 rfl 105 _ _ rfl w.heap.size (.bool false) (.bool true) (.int .u64 (v : Int)) (.slice A9 q c9) rfl rfl hz8 (by kernel_rfl) ⟨rfl, rfl, rfl, rfl⟩ ?_)
                        intro w9 hw9 ho9
                        have hb9 := hbw8.trans (ho9.below (base := w.heap.size) (fun k hk => by injection hk with hk; omega))
                        have Hfin : Hid (LookPost5 w xs (.returned (.agg #[.bool false, (.bool true), .int .u64 (v : Int), .slice A9 q c9])) w9) := Lib.hid (.none_ (by have := Hlk.out; rw [HW3.out] at this; simpa using this) _ _ _ _ _ _)
                        clear ho9
                        go_wp2_with fail
                        refine bodyPost_ret (results_cell_row rfl _ w9 w.heap.size 105 _ _ _ rfl hw9 Try.underlying105 rfl (by kernel_rfl)) rfl ?_
                        exact ⟨Hfin.out, hb9⟩
              · obtain rfl : j = rs.length := by have := Hj.out.1; omega
                have hX := HX.out
                have hj1 : ¬ ((J : Int) < (m : Int)) := by have := Hml.out; have := Hj.out.2; omega
                have hspi := Hspi.out
                have hspn := Hsp.out
                have HW3 : Hid (walkR rs false = (acc, wh, false)) := Lib.hid (by rw [HW.out, List.drop_length]; simp [walkR])
                clear HW
                cases wh with
                | true =>
                  have x8 := set_row hX 1 (.bool sp)
                  have hxf := free_row hX 1
                  have hxc1 : wr.cell? ⟨w2.heap.size, 1, none⟩ = some (.bool false) := by rw [cell_row hX]; rfl
                  have z0 : (wr.setCell ⟨w2.heap.size, 1, none⟩ (.bool sp)).cell? ⟨w2.heap.size, 0, none⟩ = some (.bool true) := by rw [cell_row x8]; rfl
                  have z1 : (wr.setCell ⟨w2.heap.size, 1, none⟩ (.bool sp)).cell? ⟨w2.heap.size, 1, none⟩ = some (.bool sp) := by rw [cell_row x8]; rfl
                  have z2 : (wr.setCell ⟨w2.heap.size, 1, none⟩ (.bool sp)).cell? ⟨w2.heap.size, 2, none⟩ = some (.int .u64 (v : Int)) := by rw [cell_row x8]; rfl
                  have z3 : (wr.setCell ⟨w2.heap.size, 1, none⟩ (.bool sp)).cell? ⟨w2.heap.size, 3, none⟩ = some (.slice A9 q c9) := by rw [cell_row x8]; rfl
                  have hzr := (hbel.block _ hw2).trans Hz2.out
                  have hz8 : (wr.setCell ⟨w2.heap.size, 1, none⟩ (.bool sp)).heap[w.heap.size]? = some (.cells #[.bool false, .bool false, .int .u64 0, .slice none 0 0] 105 (0, 0)) := by rw [Below.heap_setCell _ _ _ _ (by simp; omega)]; exact hzr
                  have hb8 := hbel.setCell (p := ⟨w2.heap.size, 1, none⟩) (Nat.le_refl _) (.bool sp)
                  have hbw8 := Hbel2.out.trans (hb8.mono Hbel2.out.size)
                  have ho8 := own_at (w' := wr.setCell ⟨w2.heap.size, 1, none⟩ (.bool sp)) hown (fun k hk e => Below.heap_setCell _ _ _ _ (by have := (hown.lt k e).1; simp; omega))
                  have hql : q = acc.length := by have := hown.1; rw [svs, List.length_map] at this; omega
                  have Hql := Lib.hid hql
                  clear hX x8 hown hbel hb8 hzr hql
                  go_wp2_with (refine wpList_store4 rfl 105 _ _ rfl w.heap.size (.bool true) (.bool sp) (.int .u64 (v : Int)) (.slice A9 q c9) rfl rfl hz8 (by kernel_rfl) ⟨rfl, rfl, rfl, rfl⟩ ?_)
                  intro w9 hw9 ho9
                  have hb9 := hbw8.trans (ho9.below (base := w.heap.size) (fun k hk => by injection hk with hk; omega))
                  have ho9' := own_at (w' := w9) ho8 (fun k hk e => ho9.block k (fun e2 => by
                    injection e2 with e2
                    have := (ho8.lt k e).1
                    omega))
                  have Hfin : Hid (LookPost5 w xs (.returned (.agg #[.bool true, (.bool sp), .int .u64 (v : Int), .slice A9 q c9])) w9) := Lib.hid (.some_ (recs := acc) (sp := sp) (by have := Hlk.out; rw [HW3.out] at this; simpa using this) Hql.out (own_lower ho9' (by omega)))
                  clear ho9'
                  clear ho9
                  go_wp2_with fail
                  refine bodyPost_ret (results_cell_row rfl _ w9 w.heap.size 105 _ _ _ rfl hw9 Try.underlying105 rfl (by kernel_rfl)) rfl ?_
                  exact ⟨Hfin.out, hb9⟩
                | false =>
                  have x8 := set_row hX 1 (.bool sp)
                  have hxf := free_row hX 1
                  have hxc1 : wr.cell? ⟨w2.heap.size, 1, none⟩ = some (.bool false) := by rw [cell_row hX]; rfl
                  have z0 : (wr.setCell ⟨w2.heap.size, 1, none⟩ (.bool sp)).cell? ⟨w2.heap.size, 0, none⟩ = some (.bool false) := by rw [cell_row x8]; rfl
                  have z1 : (wr.setCell ⟨w2.heap.size, 1, none⟩ (.bool sp)).cell? ⟨w2.heap.size, 1, none⟩ = some (.bool sp) := by rw [cell_row x8]; rfl
                  have z2 : (wr.setCell ⟨w2.heap.size, 1, none⟩ (.bool sp)).cell? ⟨w2.heap.size, 2, none⟩ = some (.int .u64 (v : Int)) := by rw [cell_row x8]; rfl
                  have z3 : (wr.setCell ⟨w2.heap.size, 1, none⟩ (.bool sp)).cell? ⟨w2.heap.size, 3, none⟩ = some (.slice A9 q c9) := by rw [cell_row x8]; rfl
                  have hzr := (hbel.block _ hw2).trans Hz2.out
                  have hz8 : (wr.setCell ⟨w2.heap.size, 1, none⟩ (.bool sp)).heap[w.heap.size]? = some (.cells #[.bool false, .bool false, .int .u64 0, .slice none 0 0] 105 (0, 0)) := by rw [Below.heap_setCell _ _ _ _ (by simp; omega)]; exact hzr
                  have hb8 := hbel.setCell (p := ⟨w2.heap.size, 1, none⟩) (Nat.le_refl _) (.bool sp)
                  have hbw8 := Hbel2.out.trans (hb8.mono Hbel2.out.size)
                  have ho8 := own_at (w' := wr.setCell ⟨w2.heap.size, 1, none⟩ (.bool sp)) hown (fun k hk e => Below.heap_setCell _ _ _ _ (by have := (hown.lt k e).1; simp; omega))
                  have hql : q = acc.length := by have := hown.1; rw [svs, List.length_map] at this; omega
                  have Hql := Lib.hid hql
                  clear hX x8 hown hbel hb8 hzr hql
                  go_wp2_with (refine wpList_store4 rfl 105 _ _ rfl w.heap.size (.bool false) (.bool sp) (.int .u64 (v : Int)) (.slice A9 q c9) rfl rfl hz8 (by kernel_rfl) ⟨rfl, rfl, rfl, rfl⟩ ?_)
                  intro w9 hw9 ho9
                  have hb9 := hbw8.trans (ho9.below (base := w.heap.size) (fun k hk => by injection hk with hk; omega))
                  have Hfin : Hid (LookPost5 w xs (.returned (.agg #[.bool false, (.bool sp), .int .u64 (v : Int), .slice A9 q c9])) w9) := Lib.hid (.none_ (by have := Hlk.out; rw [HW3.out] at this; simpa using this) _ _ _ _ _ _)
                  clear ho9
                  go_wp2_with fail
                  refine bodyPost_ret (results_cell_row rfl _ w9 w.heap.size 105 _ _ _ rfl hw9 Try.underlying105 rfl (by kernel_rfl)) rfl ?_
                  exact ⟨Hfin.out, hb9⟩
      · have hxne : (((x.toNat : Nat) : Int) != 71) = true := by rw [bne_iff_ne]; exact fun h => h71 ((sum_fixed x).1 h)
        go_wp2_with (refine wpList_store4 rfl 105 _ _ rfl w.heap.size (.bool false) (.bool false) (.int .u64 0) (.slice none 0 0) rfl rfl hz3 (by kernel_rfl) ⟨rfl, rfl, rfl, rfl⟩ ?_)
        intro w9 hw9 ho9
        have hb9 := hbel3.trans (ho9.below (base := w.heap.size) (fun k hk => by injection hk with hk; omega))
        have Hfin : Hid (LookPost5 w xs (.returned (.agg #[.bool false, .bool false, .int .u64 0, .slice none 0 0])) w9) := Lib.hid (.none_ (g := 0) (by rw [Hlook.out]; show (if _ then _ else _) = _; rw [if_neg (fun h => h71 (by have := h.2.1; rw [hhead] at this; injection this))]) _ _ _ _ _)
        clear ho9
        go_wp2_with fail
        refine bodyPost_ret (results_cell_row rfl _ w9 w.heap.size 105 _ _ _ rfl hw9 Try.underlying105 rfl (by kernel_rfl)) rfl ?_
        exact ⟨Hfin.out, hb9⟩
    · have hlen9 : ((g0.length : Int) != 9) = true := by rw [bne_iff_ne]; omega
      have hl9 : ¬ (g0.length : Int) = 9 := by omega
      go_wp2_with (refine wpList_store4 rfl 105 _ _ rfl w.heap.size (.bool false) (.bool false) (.int .u64 0) (.slice none 0 0) rfl rfl hz3 (by kernel_rfl) ⟨rfl, rfl, rfl, rfl⟩ ?_)
      intro w9 hw9 ho9
      have hb9 := hbel3.trans (ho9.below (base := w.heap.size) (fun k hk => by injection hk with hk; omega))
      have Hfin : Hid (LookPost5 w xs (.returned (.agg #[.bool false, .bool false, .int .u64 0, .slice none 0 0])) w9) := Lib.hid (.none_ (g := 0) (by rw [Hlook.out]; show (if _ then _ else _) = _; rw [if_neg (fun h => h9 h.1)]) _ _ _ _ _)
      clear ho9
      go_wp2_with fail
      refine bodyPost_ret (results_cell_row rfl _ w9 w.heap.size 105 _ _ _ rfl hw9 Try.underlying105 rfl (by kernel_rfl)) rfl ?_
      exact ⟨Hfin.out, hb9⟩
end Go.Proofs.Ythcajaadbdiggaa
