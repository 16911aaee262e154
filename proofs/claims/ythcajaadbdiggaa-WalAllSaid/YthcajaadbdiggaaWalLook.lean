/- Contract of look. -/
import Derived.Test.YthcajaadbdiggaaWalOps
import Derived.Test.YthcajaadbdiggaaStoreRow
import Derived.Laws.ResultCell
import Derived.Deep.RegionLaw
import Derived.Laws.Rows
namespace Go.Proofs.Ythcajaadbdiggaa
set_option maxRecDepth 1000000
open Go.RowKit

theorem results_row_tmp {P : Program} {fn : Func} {p u : Tmp} {ty : TypeId} (h : fn.results = #[.cell p ty, .tmp u]) (tmps : Array Value) (w : World) (g : Nat) (t : TypeId) (cs : Array Value) (fr : Nat × Nat) (d : TypeDesc)
    (hp : tmps.getD p undef = .pointer (some ⟨g, 0, none⟩)) (hg : w.heap[g]? = some (.cells cs t fr))
    (hu : P.underlying ty = some d) (hd : (match d with | .struct _ | .array _ _ => true | _ => false) = true) (hi : (P.info? ty).map (·.size) = some cs.size) :
    (results fn tmps).run P w = .ok (.tuple #[.agg cs, tmps.getD u undef]) w := by
  rw [results_cell_tmp h, hp]
  simp [asAddr, run_loadVar_row w g t ty cs fr d hg hu hd hi, Result.andThen]

abbrev readV (g : Nat) (B : Option Addr) (m c : Nat) (s : Int) (sp : Bool) : Value := .agg #[.int .u64 (g : Int), .slice B m c, .int .i64 s, .bool sp]
/-- what look answers; the records stay readable as long as the blocks that are new stand -/
def LookPost (w : World) (xs : List UInt8) (e : Ending) (w' : World) : Prop :=
  match lookOf xs with
  | some (g, recs, sp) => ∃ B m c, e = .returned (.tuple #[readV g B m c (xs.length : Int) sp, .bool true]) ∧ m ≤ c ∧ ∀ U : World, (∀ g, w.heap.size ≤ g → g < w'.heap.size → U.heap[g]? = w'.heap[g]?) → RdL U B m recs
  | none => ∃ g B m c s sp, e = .returned (.tuple #[readV g B m c s sp, .bool false])
theorem LookPost.none_ {w : World} {xs : List UInt8} (h : lookOf xs = none) (g : Nat) (B : Option Addr) (m c : Nat) (s : Int) (sp : Bool) (w' : World) : LookPost w xs (.returned (.tuple #[readV g B m c s sp, .bool false])) w' := by
  unfold LookPost; rw [h]; exact ⟨g, B, m, c, s, sp, rfl⟩
theorem LookPost.some_ {w : World} {xs : List UInt8} {g : Nat} {recs : List (List UInt8)} {sp : Bool} (h : lookOf xs = some (g, recs, sp)) {B : Option Addr} {m c : Nat} {w' : World} (hc : m ≤ c) (hr : ∀ U : World, (∀ g, w.heap.size ≤ g → g < w'.heap.size → U.heap[g]? = w'.heap[g]?) → RdL U B m recs) : LookPost w xs (.returned (.tuple #[readV g B m c (xs.length : Int) sp, .bool true])) w' := by
  unfold LookPost; rw [h]; exact ⟨B, m, c, rfl, hc, hr⟩

theorem pl_tail {w : World} {cs : List Value} {l : List UInt8} {ls : List (List UInt8)} (h : PL w cs (l :: ls)) : PL w (cs.drop 1) ls :=
  ⟨by rw [List.length_drop, h.1]; simp, fun j r hr => by
    obtain ⟨B, c, h1, h2, h3⟩ := h.2 (j + 1) r (by simpa using hr)
    exact ⟨B, c, by rw [List.getElem?_drop, Nat.add_comm]; exact h1, h2, h3⟩⟩
/-- cells that are slices of bytes, which read as long as the blocks from k on are as they were -/
def PLk (w : World) (k : Nat) (cs : List Value) (ls : List (List UInt8)) : Prop :=
  ∀ U : World, (∀ g, k ≤ g → g < w.heap.size → U.heap[g]? = w.heap[g]?) → PL U cs ls
theorem PLk.of_own {w : World} {k : Nat} {G : Nat → Nat} {cs : List Value} {ls : List (List UInt8)} (h : OwnL w k G cs ls) : PLk w k cs ls := fun U hU =>
  (h.move (w' := U) (fun g c hg hc => (hU g hg (heap_lt hc)).trans hc)).pl
theorem PLk.tail {w : World} {k : Nat} {cs : List Value} {l : List UInt8} {ls : List (List UInt8)} (h : PLk w k cs (l :: ls)) : PLk w k (cs.drop 1) ls := fun U hU => pl_tail (h U hU)
theorem PLk.nil_ (w : World) (k : Nat) : PLk w k [] [] := fun U _ => PL.nil_ U
theorem PLk.snoc {w : World} {k : Nat} {cs : List Value} {ls : List (List UInt8)} {l : List UInt8} {B : Option Addr} {n c : Nat} (h : PLk w k cs ls) (hr : ∀ U : World, (∀ g, k ≤ g → g < w.heap.size → U.heap[g]? = w.heap[g]?) → Rd U B n (ub l)) (hc : n ≤ c) : PLk w k (cs ++ [Value.slice B n c]) (ls ++ [l]) :=
  fun U hU => (h U hU).snoc (hr U hU) hc
def zeroRead : Obj := .cells #[.int .u64 0, .slice none 0 0, .int .i64 0, .bool false] 95 (0, 0)

set_option maxHeartbeats 8000000 in
theorem look_calls (A : Option Addr) (n cap : Nat) (xs : List UInt8) (w : World) (hx : Rd w A n (ub xs)) (hc : n ≤ cap) (hm : n ≤ 1073741824) :
    Calls Try.prog 49 #[.slice A n cap] w fun e w' => LookPost w xs e w' ∧ Below w.heap.size w w' := by
  have hlx := hx.len
  subst hlx
  go_enter Try.func49, Try.ntmps49
  go_wp2_with fail
  have hba := (Below.refl w.heap.size w).alloc (Nat.le_refl _) zeroRead
  have hz0 := alloc_new w zeroRead _ rfl
  have hx1 := hx.below hba
  change Calls _ _ _ (w.alloc zeroRead) _
  generalize w.alloc zeroRead = W1 at *
  have hW1 := heap_lt hz0
  refine (fscan_calls A xs.length cap xs W1 hx1 hc hm).mono ?_
  have hmb := scan_bound xs
  generalize hls : (scanOf xs).1 = ls at *
  generalize hgd : (scanOf xs).2 = gd at *
  rintro e w2 ⟨⟨B, m, c, G, cs, rfl, hmn, hmc, hown, hol⟩, hb2⟩
  have hz2 := (hb2.block _ hW1).trans hz0
  have hmb : m ≤ 134217728 := by omega
  have hbel2 := hba.trans (hb2.mono hba.size)
  obtain ⟨B', c', hBe, _, hrd⟩ := own_rd hown
  injection hBe with e1 _ e3
  subst e1 e3
  have hpl := hol.pl
  have hplk := PLk.of_own hol
  clear hx1 hown hol hba hz0
  obtain ⟨sp, hsp⟩ : ∃ sp, decide (gd < xs.length) = sp := ⟨_, rfl⟩
  have hlook : lookOf xs = lookL ls sp := by unfold lookOf; rw [hls, hgd, hsp]
  have hbx := (Below.refl w2.heap.size w2).alloc (Nat.le_refl _) (.cells #[.int .u64 0, .slice none 0 0, .int .i64 (xs.length : Int), .bool sp] 95)
  have x0 := alloc_new w2 (.cells #[.int .u64 0, .slice none 0 0, .int .i64 (xs.length : Int), .bool sp] 95) _ rfl
  have hz3 := (hbx.block _ (heap_lt hz2)).trans hz2
  have hbel3 := below_then hbel2 hbx
  have hrd3 := hrd.below hbx
  have hpl3 := hpl.below hbx
  have hx3 := hx.below hbel3
  have Hlook := Lib.hid hlook
  have hw2 : w.heap.size < w2.heap.size := heap_lt hz2
  have Hbel2 := Lib.hid hbel2
  have Hz2 := Lib.hid hz2
  have Hrd := Lib.hid hrd
  have Hpl := Lib.hid hpl
  have Hbx := Lib.hid hbx
  have Hplk := Lib.hid hplk
  clear hlook hls hgd hbel2 hz2 hrd hpl hplk hb2 hbx
  cases ls with
  | nil =>
    obtain rfl : m = 0 := hmn
    go_wp2_with (refine wpList_store4 rfl 95 _ _ rfl w.heap.size (.int .u64 0) (.slice none 0 0) (.int .i64 0) (.bool false) rfl rfl hz3 (by kernel_rfl) ⟨rfl, rfl, rfl, rfl⟩ ?_)

    intro w9 hw9 ho9
    have hb9 := hbel3.trans (ho9.below (base := w.heap.size) (fun k hk => by injection hk with hk; omega))
    have Hfin : Hid (LookPost w xs (.returned (.tuple #[readV 0 none 0 0 0 false, .bool false])) w9) := Lib.hid (.none_ Hlook.out _ _ _ _ _ _ _)
    clear ho9
    go_wp2_with fail
    refine bodyPost_ret (results_row_tmp rfl _ w9 w.heap.size 95 _ _ _ rfl hw9 Try.underlying95 rfl (by kernel_rfl)) rfl ?_
    exact ⟨Hfin.out, hb9⟩
  | cons g0 rs =>
    have hm0 : 0 < m := by rw [hmn]; exact Nat.succ_pos _
    have hm0' : (0 : Int) < m := by omega
    obtain ⟨ad, hBe, hcells⟩ := hrd3.2 hm0
    subst hBe
    obtain ⟨B0, c0, hc0, hc0c, hr0⟩ := hpl3.2 0 g0 rfl
    have hcell0 := hcells 0 _ hc0
    rw [add_zero'] at hcell0
    have Hmn := Lib.hid hmn
    have hmne : ((m : Int) == 0) = false := by rw [beq_eq_false_iff_ne]; omega
    clear hmn hcells hc0
    by_cases h9 : g0.length = 9
    · have hlen9 : (g0.length : Int) = 9 := by omega
      obtain ⟨ad0, x, rfl, hx0, hb0⟩ := hr0.byte (k := 0) (by omega)
      rw [add_zero'] at hb0
      have hhead : g0.head? = some x := by rw [List.head?_eq_getElem?]; exact hx0
      by_cases h71 : x = 71
      · subst h71
        have hx71 : (((71 : UInt8).toNat : Nat) : Int) = 71 := rfl
        rw [hx71] at hb0
        have hget := get_calls (some ad0) g0.length c0 g0 1 8 _ hr0 hc0c (by omega) (by decide) (by decide) (by omega)
        generalize hv : rdbe ((g0.drop 1).take 8) = v at *
        rw [h9] at hget
        have hlt18 : v < 18446744073709551616 := by rw [← hv]; exact rdbe_small (n := 8) (by rw [List.length_take]; omega) (by decide)
        go_wp2_with fail
        generalize w2.alloc (.cells #[.int .u64 0, .slice none 0 0, .int .i64 (xs.length : Int), .bool sp] 95) = W3 at *
        refine hget.mono ?_
        rintro e W3' ⟨rfl, rfl⟩
        have k0 : W3.cell? ⟨w2.heap.size, 0, none⟩ = some (.int .u64 0) := by rw [cell_row x0]; rfl
        have kf := free_row x0 0
        have x1 := set_row x0 0 (.int .u64 (v : Int))
        have l0 : (W3.setCell ⟨w2.heap.size, 0, none⟩ (.int .u64 (v : Int))).cell? ⟨w2.heap.size, 0, none⟩ = some (.int .u64 (v : Int)) := by rw [cell_row x1]; rfl
        have hb4 := hbel3.setCell (p := ⟨w2.heap.size, 0, none⟩) (Nat.le_of_lt hw2) (.int .u64 (v : Int))
        have hz4 : (W3.setCell ⟨w2.heap.size, 0, none⟩ (.int .u64 (v : Int))).heap[w.heap.size]? = some zeroRead := by rw [Below.heap_setCell _ _ _ _ (by simp; omega)]; exact hz3
        clear hget hb0 hcell0 hr0
        by_cases hv0 : v = 0
        · have hnone : lookOf xs = none := by rw [Hlook.out]; show (if _ then _ else _) = _; rw [if_neg (fun h => by have := h.2.2.1; rw [hv, hv0] at this; exact absurd this (by decide))]
          subst hv0
          simp only [Int.natCast_zero] at k0 x1 l0 hb4 hz4
          go_wp2_with (refine wpList_store4 rfl 95 _ _ rfl w.heap.size (.int .u64 0) (.slice none 0 0) (.int .i64 0) (.bool false) rfl rfl hz4 (by kernel_rfl) ⟨rfl, rfl, rfl, rfl⟩ ?_)

          intro w9 hw9 ho9
          have hb9 := hb4.trans (ho9.below (base := w.heap.size) (fun k hk => by injection hk with hk; omega))
          have Hfin : Hid (LookPost w xs (.returned (.tuple #[readV 0 none 0 0 0 false, .bool false])) w9) := Lib.hid (.none_ hnone _ _ _ _ _ _ _)
          clear ho9
          go_wp2_with fail
          refine bodyPost_ret (results_row_tmp rfl _ w9 w.heap.size 95 _ _ _ rfl hw9 Try.underlying95 rfl (by kernel_rfl)) rfl ?_
          exact ⟨Hfin.out, hb9⟩
        · have hvne : ((v : Int) == 0) = false := by rw [beq_eq_false_iff_ne]; omega
          by_cases hvb : 4611686018427387904 ≤ v
          · have hnone : lookOf xs = none := by rw [Hlook.out]; show (if _ then _ else _) = _; rw [if_neg (fun h => by have := h.2.2.2; rw [hv] at this; omega)]
            have hvb' : ((4611686018427387904 : Int) ≤ (v : Int)) = True := eq_true (by omega)
            clear hvb
            go_wp2_with (refine wpList_store4 rfl 95 _ _ rfl w.heap.size (.int .u64 0) (.slice none 0 0) (.int .i64 0) (.bool false) rfl rfl hz4 (by kernel_rfl) ⟨rfl, rfl, rfl, rfl⟩ ?_)

            intro w9 hw9 ho9
            have hb9 := hb4.trans (ho9.below (base := w.heap.size) (fun k hk => by injection hk with hk; omega))
            have Hfin : Hid (LookPost w xs (.returned (.tuple #[readV 0 none 0 0 0 false, .bool false])) w9) := Lib.hid (.none_ hnone _ _ _ _ _ _ _)
            clear ho9
            go_wp2_with fail
            refine bodyPost_ret (results_row_tmp rfl _ w9 w.heap.size 95 _ _ _ rfl hw9 Try.underlying95 rfl (by kernel_rfl)) rfl ?_
            exact ⟨Hfin.out, hb9⟩
          · have hvb' : ((4611686018427387904 : Int) ≤ (v : Int)) = False := eq_false (by omega)
            obtain ⟨A', hcut, hA'⟩ := cut_lo (P := Try.prog) Try.underlying36 (size_of_info info_sl2) (some ad) m c 1 1 rfl (by omega) hmc
            have HRS : Hid (PLk w2 W1.heap.size (cs.drop 1) rs) := Lib.hid Hplk.out.tail
            have HRc : Hid (Rd w2 A' (m - 1) (cs.drop 1)) := Lib.hid (hA' _ _ Hrd.out)
            have Hrs : Hid (RdL w2 A' (m - 1) rs) := Lib.hid ((pl_tail Hpl.out).rdl (hA' _ _ Hrd.out))
            have hbx4 : Below w2.heap.size w2 (W3.setCell ⟨w2.heap.size, 0, none⟩ (.int .u64 (v : Int))) := Hbx.out.setCell (p := ⟨w2.heap.size, 0, none⟩) (Nat.le_refl _) _
            have X1 : Hid ((W3.setCell ⟨w2.heap.size, 0, none⟩ (.int .u64 (v : Int))).heap[w2.heap.size]? = some (.cells #[.int .u64 (v : Int), .slice none 0 0, .int .i64 (xs.length : Int), .bool sp] 95 (0, 0))) := Lib.hid (by rw [x1]; rfl)
            have hlk : ∀ (acc : List (List UInt8)) (st : Bool), walkR rs false = (acc, true, st) → lookOf xs = some (v, acc, st || sp) := fun acc st hw => by
              rw [Hlook.out]; show (if _ then _ else _) = _
              rw [if_pos ⟨h9, hhead, by rw [hv]; omega, by rw [hv]; omega⟩, hw, hv]; rfl
            have hlkn : ∀ (acc : List (List UInt8)) (st : Bool), walkR rs false = (acc, false, st) → lookOf xs = none := fun acc st hw => by
              rw [Hlook.out]; show (if _ then _ else _) = _
              rw [if_pos ⟨h9, hhead, by rw [hv]; omega, by rw [hv]; omega⟩, hw]; rfl
            have Hlk := Lib.hid (And.intro hlk hlkn)
            have Hlen : Hid (rs.length = m - 1) := Lib.hid (by have := Hmn.out; simp at this; omega)
            have hsz4 : w2.heap.size + 1 ≤ (W3.setCell ⟨w2.heap.size, 0, none⟩ (.int .u64 (v : Int))).heap.size := by have := heap_lt x1; omega
            clear hlk hlkn hA' hhead hx0 hvb hrd3 hpl3 hx3 hz3 hbel3 hx
            go_wp2_with fail
            clear k0 kf x0 x1 l0 hz4 hb4
            generalize W3.setCell ⟨w2.heap.size, 0, none⟩ (.int .u64 (v : Int)) = W4 at *
            generalize hm1 : m - 1 = m1 at *
            have hm1b : m1 ≤ 134217728 := by omega
            clear hm1
            go_loopw [7, 61] (fun wh i wr => ∃ (j : Nat) (acc : List (List UInt8)) (b : Bool) (rv : Value) (csA : List Value) (q : Nat), j ≤ m1 ∧ i = .int .i64 j ∧ wh = .bool b ∧ Hid (wr.heap[w2.heap.size]? = some (.cells #[.int .u64 (v : Int), rv, .int .i64 (xs.length : Int), .bool sp] 95 (0, 0))) ∧
              wr.ownsRow (w2.heap.size + 1) 35 1 rv q csA ∧ Hid (q ≤ j) ∧ Hid (PLk w2 W1.heap.size csA acc) ∧ Hid (walkR rs false = (acc ++ (walkR (rs.drop j) b).1, (walkR (rs.drop j) b).2)) ∧ Below w2.heap.size w2 wr ∧ w2.heap.size + 1 ≤ wr.heap.size) (fun _ i _ => m1 - (intOf i).toNat)
            case atStart => exact ⟨0, [], false, _, [], 0, Nat.zero_le _, rfl, rfl, X1, World.ownsRow_nil _ _ _ _, Nat.le_refl _, PLk.nil_ _ _, (by simp : _ = _), hbx4, hsz4⟩
            case round =>
              clear X1 hbx4 hsz4
              obtain ⟨j, acc, b, rv, csA, q, hj, rfl, rfl, HX, hown, Hqj, HA, HW, hbel, hsz⟩ := hrel
              by_cases hlt : j < m1
              · have hjl : j < rs.length := by rw [Hlen.out]; exact hlt
                obtain ⟨r, hrj⟩ : ∃ r, rs[j]? = some r := ⟨_, List.getElem?_eq_getElem hjl⟩
                obtain ⟨Br, cr, hcj, hrc, hrr2⟩ := (HRS.out w2 (fun _ _ _ => rfl)).2 j r hrj
                obtain ⟨adr, hAe, hcells⟩ := HRc.out.2 (by omega)
                subst hAe
                have hcr := (hbel.cell (World.block_lt_of_cell? w2 _ (hcells j _ hcj))).trans (hcells j _ hcj)
                have hrr := hrr2.below hbel
                have Hlt := Lib.hid hlt
                have hj0 : (0 : Int) ≤ j := by omega
                have hj1 : (j : Int) < m1 := by omega
                have hbw := Hbel2.out.trans (hbel.mono Hbel2.out.size)
                have hdrop : rs.drop j = r :: rs.drop (j + 1) := by
                  rw [List.drop_eq_getElem_cons hjl]
                  rw [List.getElem?_eq_getElem hjl] at hrj
                  injection hrj with hrj
                  rw [hrj]
                have hW := HW.out
                rw [hdrop] at hW
                have HRk : Hid (∀ U : World, (∀ g, W1.heap.size ≤ g → g < w2.heap.size → U.heap[g]? = w2.heap[g]?) → Rd U Br r.length (ub r)) := Lib.hid (fun U hU => by
                  obtain ⟨B', c', e1, _, e3⟩ := (HRS.out U hU).2 j r hrj
                  rw [hcj] at e1
                  injection e1 with e1
                  injection e1 with e1 _ _
                  subst e1
                  exact e3)
                have HW2 := Lib.hid hW
                have hX := HX.out
                have hxc1 : wr.cell? ⟨w2.heap.size, 1, none⟩ = some rv := by rw [cell_row hX]; rfl
                clear hcells hcj hrr2 hW hjl hX
                clear HW hrj hdrop
                by_cases hR : r.head? = some 82
                · obtain ⟨t, rfl⟩ : ∃ t, r = 82 :: t := by
                    cases r with
                    | nil => cases hR
                    | cons y t => injection hR with hR; subst hR; exact ⟨t, rfl⟩
                  obtain ⟨adB, y, rfl, hy, hyc⟩ := hrr.byte (k := 0) (by simp)
                  injection hy with hy
                  subst hy
                  rw [add_zero'] at hyc
                  have hyc : wr.cell? adB = some (.int .u8 82) := hyc
                  have hlt1 : ((82 :: t : List UInt8)).length = t.length + 1 := rfl
                  rw [hlt1] at hcr hrc hrr
                  obtain ⟨At, hcut2, hAt⟩ := cut_lo (P := Try.prog) Try.underlying35 (size_of_info info_u8) (some adB) (t.length + 1) cr 1 1 rfl (by omega) hrc
                  rw [Nat.add_sub_cancel] at hcut2 hAt
                  have HRt : Hid (∀ U : World, (∀ g, W1.heap.size ≤ g → g < w2.heap.size → U.heap[g]? = w2.heap[g]?) → Rd U At t.length (ub t)) := Lib.hid (fun U hU => hAt U _ (HRk.out U hU))
                  have hp1 : (0 : Int) < (t.length : Int) + 1 := by omega
                  have hl1 : ((t.length + 1 : Nat) : Int) = (t.length : Int) + 1 := by omega
                  have hcr1 : (1 : Int) ≤ (t.length : Int) + 1 := by omega
                  obtain ⟨i0, hi0, hzi0, hzi1, hzi2⟩ := info_parts info_sl2
                  have hown2 : (wr.drew.alloc (.cells #[.slice At t.length (cr - 1)] 35)).ownsRow (w2.heap.size + 1) 35 1 rv q csA := World.ownsRow.alloc (w := wr.drew) hown _
                  have hr1 : Rd (wr.drew.alloc (.cells #[.slice At t.length (cr - 1)] 35)) (some ⟨wr.heap.size, 0, none⟩) 1 [.slice At t.length (cr - 1)] := rd_one wr.drew _ 35
                  have hbA : Below w2.heap.size w2 (wr.drew.alloc (.cells #[.slice At t.length (cr - 1)] 35)) := hbel.drew.alloc hbel.size _
                  have hsA : w2.heap.size + 1 ≤ (wr.drew.alloc (.cells #[.slice At t.length (cr - 1)] 35)).heap.size := by simp; omega
                  have hxA : (wr.drew.alloc (.cells #[.slice At t.length (cr - 1)] 35)).heap[w2.heap.size]? = some (.cells #[.int .u64 (v : Int), rv, .int .i64 (xs.length : Int), .bool sp] 95 (0, 0)) := alloc_old (w := wr.drew) HX.out
                  have hcA : (wr.alloc (.cells #[.slice At t.length (cr - 1)] 35)).cell? ⟨w2.heap.size, 1, none⟩ = some rv := by rw [cell_row (alloc_old (w := wr) HX.out)]; rfl
                  have HxA := Lib.hid hxA
                  have HbA := Lib.hid hbA
                  have HoA := Lib.hid hown2
                  have HrA := Lib.hid hr1
                  have Hs1 : Hid (q + 1 ≤ maxLen) := Lib.hid (by have := Hqj.out; have := Hlt.out; unfold maxLen; omega)
                  have Hs2 : Hid ((q + 1) * 24 ≤ 140737488355328) := Lib.hid (by have := Hqj.out; have := Hlt.out; omega)
                  have Hs3 := Lib.hid hsA
                  clear hAt hrr hown hown2 hr1 hbA hsA hxA hR hbel hW1
                  go_wp2_with fail
                  go_region_law (
                    refine step_append_any _ rfl (.tmp 77) (.tmp 80) 36 rfl (w2.heap.size + 1) 35 i0 (.slice none 0 0) 1 24 Try.underlying36 hi0 hzi0 hzi1 hzi2 rfl (by decide) rv q csA (by simp [Act.eval, Act.put]) HoA.out (some ⟨wr.heap.size, 0, none⟩) 1 1 [.slice At t.length (cr - 1)] (by simp [Act.eval, Act.put]) HrA.out rfl (one_one rfl) Hs1.out Hs2.out Hs3.out ?_
                    intro v6 w6 hown6 hg6 _
                    have x6 := (hg6.block w2.heap.size (heap_lt HxA.out) (fun e => by have := (HoA.out.lt _ e.symm).1; omega)).trans HxA.out
                    have c6 : w6.cell? ⟨w2.heap.size, 1, none⟩ = some rv := by rw [cell_row x6]; rfl
                    have f6 := free_row x6 1
                    obtain ⟨B6, cc6, rfl, _, _⟩ := own_rd hown6
                    have H6 := Lib.hid (And.intro hown6 (And.intro hg6 x6))
                    clear hown6 hg6 x6)
                  all_goals
                    obtain ⟨o6, g6, x6⟩ := H6.out
                    have hb6 := Below.grown (w := wr.drew.alloc (.cells #[.slice At t.length (cr - 1)] 35)) HbA.out g6 HbA.out.size (fun k hk => by have := (HoA.out.lt k hk).1; omega)
                    have hb7 := hb6.setCell (p := ⟨w2.heap.size, 1, none⟩) (Nat.le_refl _) (.slice B6 (q + 1) cc6)
                    have X7 : Hid ((w6.setCell ⟨w2.heap.size, 1, none⟩ (.slice B6 (q + 1) cc6)).heap[w2.heap.size]? = some (.cells #[.int .u64 (v : Int), .slice B6 (q + 1) cc6, .int .i64 (xs.length : Int), .bool sp] 95 (0, 0))) := Lib.hid (by rw [set_row x6]; rfl)
                    have o7 := own_move (w' := w6.setCell ⟨w2.heap.size, 1, none⟩ (.slice B6 (q + 1) cc6)) o6 (fun k hk => Below.heap_setCell _ _ _ _ (by have := (o6.lt k hk).1; simp; omega))
                    have HA7 := Lib.hid (HA.out.snoc HRt.out (show t.length ≤ cr - 1 by omega))
                    have HW7 : Hid (walkR rs false = ((acc ++ [t]) ++ (walkR (rs.drop (j + 1)) b).1, (walkR (rs.drop (j + 1)) b).2)) := Lib.hid (by
                      rw [HW2.out]
                      simp [walkR])
                    have Hq7 : Hid (q + 1 ≤ j + 1) := Lib.hid (by have := Hqj.out; omega)
                    have hs7 : w2.heap.size + 1 ≤ (w6.setCell ⟨w2.heap.size, 1, none⟩ (.slice B6 (q + 1) cc6)).heap.size := by have := heap_lt X7.out; omega
                    clear H6 o6 g6 x6 hb6 HbA HoA HrA HxA HX HA HW2 hcA hxc1 f6 c6
                    generalize w6.setCell ⟨w2.heap.size, 1, none⟩ (.slice B6 (q + 1) cc6) = w7 at *
                    go_wp2_with fail
                    go_roundw
                    case rel => exact ⟨j + 1, _, b, _, _, q + 1, Hlt.out, by go_num, rfl, X7, o7, Hq7, HA7, HW7, hb7, hs7⟩
                    case measure => have := Hlt.out; simp [intOf]; omega
                · have hrr0 := hrr
                  have hsR : ∀ b, walkR (r :: rs.drop (j + 1)) b = if b = true then ([], true, true) else if r = [69] then walkR (rs.drop (j + 1)) true else ([], false, true) := fun b => by
                    cases r with
                    | nil => cases b <;> simp [walkR]
                    | cons y t =>
                      have hy : y ≠ 82 := fun e => hR (by rw [e]; rfl)
                      cases b <;> simp [walkR, hy]
                  have HsR := Lib.hid hsR
                  clear hsR
                  have hzr := (hbel.block _ hw2).trans Hz2.out
                  cases r with
                  | nil =>
                    have hl0 : (([] : List UInt8)).length = 0 := rfl
                    rw [hl0] at hcr hrc hrr
                    have hs1 : (convert 35 9 (.slice Br 0 cr)).run Try.prog wr = .ok (.string (txt [])) wr := run_str (P := Try.prog) (dst := 9) Try.underlying35 Try.underlying5 Try.underlying9 hrr cr
                    have htxt : (txt [] : ByteArray) = ⟨#[]⟩ := rfl
                    rw [htxt] at hs1
                    cases b with
                    | true =>
                      have hW3 : walkR rs false = (acc, true, true) := by rw [HW2.out, HsR.out true]; simp
                      have hX := HX.out
                      have x8 := set_row hX 3 (.bool true)
                      have hxf := free_row hX 3
                      obtain ⟨B9, c9, rfl, hq9, hrd9⟩ := own_rd hown
                      have hxc3 : wr.cell? ⟨w2.heap.size, 3, none⟩ = some (.bool sp) := by rw [cell_row hX]; rfl
                      have y0 : (wr.setCell ⟨w2.heap.size, 3, none⟩ (.bool true)).cell? ⟨w2.heap.size, 0, none⟩ = some (.int .u64 (v : Int)) := by rw [cell_row x8]; rfl
                      have y1 : (wr.setCell ⟨w2.heap.size, 3, none⟩ (.bool true)).cell? ⟨w2.heap.size, 1, none⟩ = some (.slice B9 q c9) := by rw [cell_row x8]; rfl
                      have y2 : (wr.setCell ⟨w2.heap.size, 3, none⟩ (.bool true)).cell? ⟨w2.heap.size, 2, none⟩ = some (.int .i64 (xs.length : Int)) := by rw [cell_row x8]; rfl
                      have y3 : (wr.setCell ⟨w2.heap.size, 3, none⟩ (.bool true)).cell? ⟨w2.heap.size, 3, none⟩ = some (.bool true) := by rw [cell_row x8]; rfl
                      have hz8 : (wr.setCell ⟨w2.heap.size, 3, none⟩ (.bool true)).heap[w.heap.size]? = some zeroRead := by rw [Below.heap_setCell _ _ _ _ (by simp; omega)]; exact hzr
                      have hb8 := hbel.setCell (p := ⟨w2.heap.size, 3, none⟩) (Nat.le_refl _) (.bool true)
                      have hbw8 := Hbel2.out.trans (hb8.mono Hbel2.out.size)
                      have hrd8 := hrd9.at_block (w' := wr.setCell ⟨w2.heap.size, 3, none⟩ (.bool true)) (fun ad e => Below.heap_setCell _ _ _ _ (by subst e; have := (hown.lt _ rfl).1; simp; omega))
                      have HoB : Hid (∀ ad, B9 = some ad → w2.heap.size + 1 ≤ ad.block ∧ ad.block < (wr.setCell ⟨w2.heap.size, 3, none⟩ (.bool true)).heap.size) := Lib.hid (fun ad e => by subst e; have := hown.lt _ rfl; exact ⟨this.1, by simpa [World.setCell] using this.2⟩)
                      have Hbl8 := Lib.hid hb8
                      clear hX x8 hown hrd9 hrr hrr0 hbel hb8 HX HW2 HRk hR hzr
                      go_wp2_with (refine wpList_store4 rfl 95 _ _ rfl w.heap.size (.int .u64 (v : Int)) (.slice B9 q c9) (.int .i64 (xs.length : Int)) (.bool true) rfl rfl hz8 (by kernel_rfl) ⟨rfl, rfl, rfl, rfl⟩ ?_)
                      intro w9 hw9 ho9
                      have hb9 := hbw8.trans (ho9.below (base := w.heap.size) (fun k hk => by injection hk with hk; omega))
                      have hrd9' := hrd8.at_block (w' := w9) (fun ad e => ho9.block _ (fun e2 => by
                        injection e2 with e2
                        have := HoB.out ad e
                        omega))
                      have Hfin : Hid (LookPost w xs (.returned (.tuple #[readV v B9 q c9 (xs.length : Int) true, .bool true])) w9) := Lib.hid (.some_ (sp := true) (by have := Hlk.out.1 acc true hW3; simpa using this) hq9 (fun U hU => (HA.out U (fun g hg hg2 => (hU g (by omega) (by have := ho9.size; have := Hbl8.out.size; omega)).trans ((ho9.block g (fun e => by injection e with e; omega)).trans (Hbl8.out.block g hg2)))).rdl (hrd9'.at_block (fun ad e => hU _ (by have := HoB.out ad e; omega) (by have := HoB.out ad e; have := ho9.size; omega)))))
                      clear ho9 hrd8 hrd9' hW3
                      go_wp2_with fail
                      refine bodyPost_ret (results_row_tmp rfl _ w9 w.heap.size 95 _ _ _ rfl hw9 Try.underlying95 rfl (by kernel_rfl)) rfl ?_
                      exact ⟨Hfin.out, hb9⟩
                    | false =>
                      have hnone : lookOf xs = none := Hlk.out.2 acc true (by rw [HW2.out, HsR.out false, if_neg (by simp), if_neg (by simp)]; simp)
                      clear hrr hrr0 HX HW2 HRk hR hown HA
                      go_wp2_with (refine wpList_store4 rfl 95 _ _ rfl w.heap.size (.int .u64 0) (.slice none 0 0) (.int .i64 0) (.bool false) rfl rfl hzr (by kernel_rfl) ⟨rfl, rfl, rfl, rfl⟩ ?_)

                      intro w9 hw9 ho9
                      have hb9 := hbw.trans (ho9.below (base := w.heap.size) (fun k hk => by injection hk with hk; omega))
                      have Hfin : Hid (LookPost w xs (.returned (.tuple #[readV 0 none 0 0 0 false, .bool false])) w9) := Lib.hid (.none_ hnone _ _ _ _ _ _ _)
                      clear ho9
                      go_wp2_with fail
                      refine bodyPost_ret (results_row_tmp rfl _ w9 w.heap.size 95 _ _ _ rfl hw9 Try.underlying95 rfl (by kernel_rfl)) rfl ?_
                      exact ⟨Hfin.out, hb9⟩
                  | cons y t =>
                    have hy : y ≠ 82 := fun e => hR (by rw [e]; rfl)
                    have hl0 : (y :: t : List UInt8).length = t.length + 1 := rfl
                    rw [hl0] at hcr hrc hrr
                    have hs1 : (convert 35 9 (.slice Br (t.length + 1) cr)).run Try.prog wr = .ok (.string (txt (y :: t))) wr := run_str (P := Try.prog) (dst := 9) Try.underlying35 Try.underlying5 Try.underlying9 hrr cr
                    obtain ⟨adB, y', rfl, hy', hyc⟩ := hrr.byte (k := 0) (by omega)
                    injection hy' with hy'
                    subst hy'
                    rw [add_zero'] at hyc
                    have hyne : ((y.toNat : Int) == 82) = false := by rw [beq_eq_false_iff_ne]; intro hh; exact hy (by apply UInt8.toNat_inj.1; show y.toNat = 82; omega)
                    have hp1 : (0 : Int) < (t.length : Int) + 1 := by omega
                    cases b with
                    | true =>
                      have hW3 : walkR rs false = (acc, true, true) := by rw [HW2.out, HsR.out true]; simp
                      have hX := HX.out
                      have x8 := set_row hX 3 (.bool true)
                      have hxf := free_row hX 3
                      obtain ⟨B9, c9, rfl, hq9, hrd9⟩ := own_rd hown
                      have hxc3 : wr.cell? ⟨w2.heap.size, 3, none⟩ = some (.bool sp) := by rw [cell_row hX]; rfl
                      have y0 : (wr.setCell ⟨w2.heap.size, 3, none⟩ (.bool true)).cell? ⟨w2.heap.size, 0, none⟩ = some (.int .u64 (v : Int)) := by rw [cell_row x8]; rfl
                      have y1 : (wr.setCell ⟨w2.heap.size, 3, none⟩ (.bool true)).cell? ⟨w2.heap.size, 1, none⟩ = some (.slice B9 q c9) := by rw [cell_row x8]; rfl
                      have y2 : (wr.setCell ⟨w2.heap.size, 3, none⟩ (.bool true)).cell? ⟨w2.heap.size, 2, none⟩ = some (.int .i64 (xs.length : Int)) := by rw [cell_row x8]; rfl
                      have y3 : (wr.setCell ⟨w2.heap.size, 3, none⟩ (.bool true)).cell? ⟨w2.heap.size, 3, none⟩ = some (.bool true) := by rw [cell_row x8]; rfl
                      have hz8 : (wr.setCell ⟨w2.heap.size, 3, none⟩ (.bool true)).heap[w.heap.size]? = some zeroRead := by rw [Below.heap_setCell _ _ _ _ (by simp; omega)]; exact hzr
                      have hb8 := hbel.setCell (p := ⟨w2.heap.size, 3, none⟩) (Nat.le_refl _) (.bool true)
                      have hbw8 := Hbel2.out.trans (hb8.mono Hbel2.out.size)
                      have hrd8 := hrd9.at_block (w' := wr.setCell ⟨w2.heap.size, 3, none⟩ (.bool true)) (fun ad e => Below.heap_setCell _ _ _ _ (by subst e; have := (hown.lt _ rfl).1; simp; omega))
                      have HoB : Hid (∀ ad, B9 = some ad → w2.heap.size + 1 ≤ ad.block ∧ ad.block < (wr.setCell ⟨w2.heap.size, 3, none⟩ (.bool true)).heap.size) := Lib.hid (fun ad e => by subst e; have := hown.lt _ rfl; exact ⟨this.1, by simpa [World.setCell] using this.2⟩)
                      have Hbl8 := Lib.hid hb8
                      clear hX x8 hown hrd9 hrr hrr0 hbel hb8 HX HW2 HRk hR hzr
                      go_wp2_with (refine wpList_store4 rfl 95 _ _ rfl w.heap.size (.int .u64 (v : Int)) (.slice B9 q c9) (.int .i64 (xs.length : Int)) (.bool true) rfl rfl hz8 (by kernel_rfl) ⟨rfl, rfl, rfl, rfl⟩ ?_)
                      intro w9 hw9 ho9
                      have hb9 := hbw8.trans (ho9.below (base := w.heap.size) (fun k hk => by injection hk with hk; omega))
                      have hrd9' := hrd8.at_block (w' := w9) (fun ad e => ho9.block _ (fun e2 => by
                        injection e2 with e2
                        have := HoB.out ad e
                        omega))
                      have Hfin : Hid (LookPost w xs (.returned (.tuple #[readV v B9 q c9 (xs.length : Int) true, .bool true])) w9) := Lib.hid (.some_ (sp := true) (by have := Hlk.out.1 acc true hW3; simpa using this) hq9 (fun U hU => (HA.out U (fun g hg hg2 => (hU g (by omega) (by have := ho9.size; have := Hbl8.out.size; omega)).trans ((ho9.block g (fun e => by injection e with e; omega)).trans (Hbl8.out.block g hg2)))).rdl (hrd9'.at_block (fun ad e => hU _ (by have := HoB.out ad e; omega) (by have := HoB.out ad e; have := ho9.size; omega)))))
                      clear ho9 hrd8 hrd9' hW3
                      go_wp2_with fail
                      refine bodyPost_ret (results_row_tmp rfl _ w9 w.heap.size 95 _ _ _ rfl hw9 Try.underlying95 rfl (by kernel_rfl)) rfl ?_
                      exact ⟨Hfin.out, hb9⟩
                    | false =>
                      by_cases hE : (y :: t : List UInt8) = [69]
                      · injection hE with e1 e2
                        subst e1 e2
                        have htE : txt [69] = (⟨#[69]⟩ : ByteArray) := rfl
                        rw [htE] at hs1
                        have hs1 : (convert 35 9 (.slice (some adB) 1 cr)).run Try.prog wr = .ok (.string ⟨#[69]⟩) wr := hs1
                        have HW7 : Hid (walkR rs false = (acc ++ (walkR (rs.drop (j + 1)) true).1, (walkR (rs.drop (j + 1)) true).2)) := Lib.hid (by rw [HW2.out, HsR.out false]; simp)
                        have Hq7 : Hid (q ≤ j + 1) := Lib.hid (by have := Hqj.out; omega)
                        have hb7 := hbel
                        clear hzr hrr hrr0 hbel HW2 HRk hR
                        go_wp2_with fail
                        go_roundw
                        case rel => exact ⟨j + 1, acc, true, rv, csA, q, Hlt.out, by go_num, rfl, HX, hown, Hq7, HA, HW7, hb7, hsz⟩
                        case measure => have := Hlt.out; simp [intOf]; omega
                      · have hneq : ((txt (y :: t)).toList == [69]) = false := by
                          rw [show (txt (y :: t)).toList = y :: t from ByteArray.toList_mk (y :: t), beq_eq_false_iff_ne]
                          exact hE
                        generalize txt (y :: t) = S at *
                        have hnone : lookOf xs = none := Hlk.out.2 acc true (by rw [HW2.out, HsR.out false, if_neg (by simp), if_neg hE]; simp)
                        clear hrr hrr0 HX HW2 HRk hR hown HA
                        go_wp2_with (refine wpList_store4 rfl 95 _ _ rfl w.heap.size (.int .u64 0) (.slice none 0 0) (.int .i64 0) (.bool false) rfl rfl hzr (by kernel_rfl) ⟨rfl, rfl, rfl, rfl⟩ ?_)

                        intro w9 hw9 ho9
                        have hb9 := hbw.trans (ho9.below (base := w.heap.size) (fun k hk => by injection hk with hk; omega))
                        have Hfin : Hid (LookPost w xs (.returned (.tuple #[readV 0 none 0 0 0 false, .bool false])) w9) := Lib.hid (.none_ hnone _ _ _ _ _ _ _)
                        clear ho9
                        go_wp2_with fail
                        refine bodyPost_ret (results_row_tmp rfl _ w9 w.heap.size 95 _ _ _ rfl hw9 Try.underlying95 rfl (by kernel_rfl)) rfl ?_
                        exact ⟨Hfin.out, hb9⟩
              · obtain rfl : j = m1 := by omega
                have hW := HW.out
                rw [List.drop_eq_nil_of_le (by rw [Hlen.out]; omega)] at hW
                simp only [walkR, List.append_nil] at hW
                obtain ⟨B9, c9, rfl, hq9, hrd9⟩ := own_rd hown
                have hzr := (hbel.block _ hw2).trans Hz2.out
                have hbw := Hbel2.out.trans (hbel.mono Hbel2.out.size)
                have hX := HX.out
                have hxc0 : wr.cell? ⟨w2.heap.size, 0, none⟩ = some (.int .u64 (v : Int)) := by rw [cell_row hX]; rfl
                have hxc1 : wr.cell? ⟨w2.heap.size, 1, none⟩ = some (.slice B9 q c9) := by rw [cell_row hX]; rfl
                have hxc2 : wr.cell? ⟨w2.heap.size, 2, none⟩ = some (.int .i64 (xs.length : Int)) := by rw [cell_row hX]; rfl
                have hxc3 : wr.cell? ⟨w2.heap.size, 3, none⟩ = some (.bool sp) := by rw [cell_row hX]; rfl
                clear hX HW
                go_wp2_with (refine wpList_store4 rfl 95 _ _ rfl w.heap.size (.int .u64 (v : Int)) (.slice B9 q c9) (.int .i64 (xs.length : Int)) (.bool sp) rfl rfl hzr (by kernel_rfl) ⟨rfl, rfl, rfl, rfl⟩ ?_)
                intro w9 hw9 ho9
                have hb9 := hbw.trans (ho9.below (base := w.heap.size) (fun k hk => by injection hk with hk; omega))
                have HoB : ∀ ad, B9 = some ad → w2.heap.size + 1 ≤ ad.block ∧ ad.block < wr.heap.size := fun ad e => by subst e; exact hown.lt _ rfl
                have hrd9' := hrd9.at_block (w' := w9) (fun ad e => ho9.block _ (fun e2 => by
                  injection e2 with e2
                  subst e
                  have := (hown.lt _ rfl).1
                  omega))
                have Hfin : Hid (LookPost w xs (.returned (.tuple #[readV v B9 q c9 (xs.length : Int) sp, .bool b])) w9) := Lib.hid (by
                  cases b with
                  | true => exact .some_ (sp := sp) (by have := Hlk.out.1 acc false hW; simpa using this) hq9 (fun U hU => (HA.out U (fun g hg hg2 => (hU g (by omega) (by have := ho9.size; have := hbel.size; omega)).trans ((ho9.block g (fun e => by injection e with e; omega)).trans (hbel.block g hg2)))).rdl (hrd9'.at_block (fun ad e => hU _ (by have := HoB ad e; omega) (by have := HoB ad e; have := ho9.size; omega))))
                  | false => exact .none_ (Hlk.out.2 acc false hW) _ _ _ _ _ _ _)
                clear ho9 hown hrd9 hrd9' hW HoB
                go_wp2_with fail
                refine bodyPost_ret (results_row_tmp rfl _ w9 w.heap.size 95 _ _ _ rfl hw9 Try.underlying95 rfl (by kernel_rfl)) rfl ?_
                exact ⟨Hfin.out, hb9⟩
      · have hnone : lookOf xs = none := by rw [Hlook.out]; show (if _ then _ else _) = _; rw [if_neg (fun h => h71 (by have := h.2.1; rw [hhead] at this; injection this))]
        have hxne : ((x.toNat : Int) != 71) = true := by rw [bne_iff_ne]; intro hh; exact h71 (by apply UInt8.toNat_inj.1; show x.toNat = 71; omega)
        have hne9 : ((g0.length : Int) != 9) = false := by rw [hlen9]; rfl
        go_wp2_with (refine wpList_store4 rfl 95 _ _ rfl w.heap.size (.int .u64 0) (.slice none 0 0) (.int .i64 0) (.bool false) rfl rfl hz3 (by kernel_rfl) ⟨rfl, rfl, rfl, rfl⟩ ?_)

        intro w9 hw9 ho9
        have hb9 := hbel3.trans (ho9.below (base := w.heap.size) (fun k hk => by injection hk with hk; omega))
        have Hfin : Hid (LookPost w xs (.returned (.tuple #[readV 0 none 0 0 0 false, .bool false])) w9) := Lib.hid (.none_ hnone _ _ _ _ _ _ _)
        clear ho9
        go_wp2_with fail
        refine bodyPost_ret (results_row_tmp rfl _ w9 w.heap.size 95 _ _ _ rfl hw9 Try.underlying95 rfl (by kernel_rfl)) rfl ?_
        exact ⟨Hfin.out, hb9⟩
    · have hnone : lookOf xs = none := by rw [Hlook.out]; show (if _ then _ else _) = _; rw [if_neg (fun h => h9 h.1)]
      have hne9 : ((g0.length : Int) != 9) = true := by rw [bne_iff_ne]; omega
      go_wp2_with (refine wpList_store4 rfl 95 _ _ rfl w.heap.size (.int .u64 0) (.slice none 0 0) (.int .i64 0) (.bool false) rfl rfl hz3 (by kernel_rfl) ⟨rfl, rfl, rfl, rfl⟩ ?_)

      intro w9 hw9 ho9
      have hb9 := hbel3.trans (ho9.below (base := w.heap.size) (fun k hk => by injection hk with hk; omega))
      have Hfin : Hid (LookPost w xs (.returned (.tuple #[readV 0 none 0 0 0 false, .bool false])) w9) := Lib.hid (.none_ hnone _ _ _ _ _ _ _)
      clear ho9
      go_wp2_with fail
      refine bodyPost_ret (results_row_tmp rfl _ w9 w.heap.size 95 _ _ _ rfl hw9 Try.underlying95 rfl (by kernel_rfl)) rfl ?_
      exact ⟨Hfin.out, hb9⟩
end Go.Proofs.Ythcajaadbdiggaa
