/- A whole file written by hand. -/
import Derived.Test.YthcajaadbdiggaaWalHelp
import Derived.Test.YthcajaadbdiggaaRef3
import Derived.Test.YthcajaadbdiggaaAppFull
namespace Go.Proofs.Ythcajaadbdiggaa
set_option maxRecDepth 1000000
open Go.RowKit

theorem eight_calls (v : Nat) (hv : v < 18446744073709551616) (w : World) :
    Calls Try.prog 60 #[.int .u64 (v : Int)] w fun e w' => (∃ u, e = .returned u ∧ w'.ownsRow w.heap.size 5 1 u 8 (ub (be 8 v))) ∧ Below w.heap.size w w' := by
  have hput := ref1put_calls none 0 0 [] v 8 w (Rd.none_ _ _) (by decide) (by decide) (by decide) (by omega) hv
  clear hv
  go_enter Try.func60, Try.ntmps60
  go_wp2_with fail
  refine hput.mono ?_
  rintro e w' ⟨⟨u, rfl, hown⟩, hb⟩
  rw [List.nil_append] at hown
  go_wp2_with fail
  go_ret
  exact ⟨⟨_, rfl, hown⟩, hb⟩

theorem own_lower {w : World} {b1 b2 : Nat} {e : TypeId} {size n : Nat} {v : Value} {xs : List Value} (h : w.ownsRow b1 e size v n xs) (hb : b2 ≤ b1) : w.ownsRow b2 e size v n xs := by
  refine ⟨h.1, ?_⟩
  rcases h.2 with hn | ⟨g, cap, cur, hv, hg, rest⟩
  · exact .inl hn
  · exact .inr ⟨g, cap, cur, hv, Nat.le_trans hb hg, rest⟩
theorem body_step {gen : Nat} {recs : List (List UInt8)} {k : Nat} {l : List UInt8} (h : recs[k]? = some l) : body gen (recs.take k) ++ enc (82 :: l) = body gen (recs.take (k + 1)) := by
  rw [List.take_add_one, h]; simp [body, recR]
theorem bodyG_length (gen : Nat) (l : List (List UInt8)) : (body gen l).length = l.flatten.length + 9 * l.length + 17 := by
  simp only [body, List.length_append, enc_length, List.length_cons, be_length]
  rw [show ((l.map recR).flatten).length = _ from recs_length l]; omega
theorem marked_rd (w : World) (x : UInt8) : Rd (w.alloc (.cells #[.int .u8 (x.toNat : Int)] 5 (1, 2))) (some ⟨w.heap.size, 0, none⟩) 1 (ub [x]) := Rd.of_row (r := []) (alloc_new w _ _ rfl) rfl rfl

set_option maxHeartbeats 4000000 in
theorem whole_calls (gen : Nat) (hgen : gen < 18446744073709551616) (A : Option Addr) (n cap : Nat) (recs : List (List UInt8)) (T : Option Addr) (tn tcap : Nat) (tail : List UInt8) (w : World) (hr : RdL w A n recs) (ht : Rd w T tn (ub tail)) (hn : n ≤ 1000) (hfl : recs.flatten.length ≤ 65536) (htn : tn ≤ 65536) :
    Calls Try.prog 27 #[.int .u64 (gen : Int), .slice A n cap, .slice T tn tcap] w fun e w' => (∃ u k, e = .returned u ∧ k = (fileOf gen recs ++ tail).length ∧ w'.ownsRow w.heap.size 5 1 u k (ub (fileOf gen recs ++ tail))) ∧ Below w.heap.size w w' := by
  have kc := fun (W : World) (C : Array Value) (n c : Nat) => Lib.run_convert_bytes_const (P := Try.prog) W 35 5 C n c Try.underlying35 Try.underlying5
  have height := eight_calls gen hgen
  clear hgen
  go_enter Try.func27, Try.ntmps27
  have kc0 := kc w
  go_wp2_with fail
  have hba := (Below.refl w.heap.size w).alloc (Nat.le_refl _) (.cells #[.int .u8 71] 5 (1, 2))
  have hra : Rd (w.alloc (.cells #[.int .u8 71] 5 (1, 2))) (some ⟨w.heap.size, 0, none⟩) 1 (ub [71]) := marked_rd w 71
  clear kc0
  generalize w.alloc (.cells #[.int .u8 71] 5 (1, 2)) = W0 at *
  refine (height W0).mono ?_
  rintro e w1 ⟨⟨u, rfl, hown⟩, hb1⟩
  obtain ⟨B1, c1, rfl, _, hrd1⟩ := own_rd hown
  have hra1 := hra.below hb1
  have hbel1 := below_then hba hb1
  clear hown hra hba hb1 height
  go_wp2_with (at_builtin; refine wpList_app_full rfl _ _ _ rfl 5 (.int .u8 0) 1 Try.underlying35 info_u8 rfl (by decide) rfl hra1 rfl hrd1 (ub_one _) ?_ ?_)
  case _ => decide
  case _ =>
    intro B2 c2 w2 hc2 hrd2 hb2 _
    have hrd2' : Rd w2 B2 9 (ub (71 :: be 8 gen)) := by rw [← ub_append] at hrd2; exact hrd2
    have hbel2 := below_then hbel1 hb2
    clear hrd2 hbel1 hb2 hra1 hrd1
    go_wp2_with fail
    refine (ref3put_calls none B2 0 0 9 c2 [] (71 :: be 8 gen) w2 (Rd.none_ _ _) hrd2' hc2 (by decide) (by decide)).mono ?_
    rintro e w3 ⟨⟨u, k, rfl, hk, hown⟩, hb3⟩
    have hown0 : w3.ownsRow w.heap.size 5 1 u (body gen (recs.take 0)).length (ub (body gen (recs.take 0))) := by
      have e1 : [] ++ enc (71 :: be 8 gen) = body gen (recs.take 0) := by simp [body]
      have e2 : k = (body gen (recs.take 0)).length := by rw [hk, bodyG_length]; simp
      rw [e1, e2] at hown
      exact own_lower hown hbel2.size
    have hbel3 := below_then hbel2 hb3
    clear hk hown hbel2 hb3 hrd2'
    go_wp2_with fail
    go_loopw [7, 9] (fun v i wr => ∃ k : Nat, k ≤ n ∧ i = .int .i64 k ∧ wr.ownsRow w.heap.size 5 1 v (body gen (recs.take k)).length (ub (body gen (recs.take k))) ∧ Below w.heap.size w wr) (fun _ i _ => n - (intOf i).toNat)
    case atStart => exact ⟨0, Nat.zero_le _, rfl, hown0, hbel3⟩
    case round =>
      clear hown0 hbel3
      obtain ⟨k, hk, rfl, hown, hbel⟩ := hrel
      by_cases hlt : k < n
      · have hbelA := hbel.alloc hbel.size (.cells #[.int .u8 82] 5 (1, 2))
        obtain ⟨ad, l, Bl, cl, rfl, hl, hcell, _, hrl⟩ := (hr.below hbelA).at_ hlt
        have hll : l.length ≤ 65536 := by
          have := flat_len hl; have := flat_le hl; omega
        have hbl : (body gen (recs.take k)).length ≤ 74553 := by
          rw [bodyG_length]
          have := flat_take_le recs k
          have h2 : (recs.take k).length ≤ 1000 := by rw [List.length_take]; omega
          omega
        have Hs := Lib.hid (body_step (gen := gen) hl)
        obtain ⟨B, c, rfl, _, hrd⟩ := own_rd hown
        have hrdA := hrd.below ((Below.refl wr.heap.size wr).alloc (Nat.le_refl _) (.cells #[.int .u8 82] 5 (1, 2)))
        have hra : Rd (wr.alloc (.cells #[.int .u8 82] 5 (1, 2))) (some ⟨wr.heap.size, 0, none⟩) 1 (ub [82]) := marked_rd wr 82
        have kcr := kc wr
        clear hown hl hrd
        generalize hbs : body gen (recs.take k) = bs at *
        clear hbs
        go_wp2_with (at_builtin; refine wpList_app_full rfl _ _ _ rfl 5 (.int .u8 0) 1 Try.underlying35 info_u8 rfl (by decide) rfl hra rfl hrl (ub_one _) ?_ ?_)
        case _ => omega
        case _ =>
          intro B2 c2 w2 hc2 hrd2 hb2 _
          have hrd2' : Rd w2 B2 (1 + l.length) (ub (82 :: l)) := by rw [← ub_append] at hrd2; exact hrd2
          have hb2' : Below (wr.alloc (.cells #[.int .u8 82] 5 (1, 2))).heap.size (wr.alloc (.cells #[.int .u8 82] 5 (1, 2))) w2 := by simpa using hb2
          have hrdB := hrdA.below hb2'
          have hbel2 := below_then hbelA hb2'
          clear hb2'
          clear hrd2 hb2 hra hrl hrdA hbelA kcr hcell
          go_wp2_with fail
          refine (ref3put_calls B B2 bs.length c (1 + l.length) c2 bs (82 :: l) w2 hrdB hrd2' hc2 (by omega) (by omega)).mono ?_
          rintro e w3 ⟨⟨u, k3, rfl, hk3, hown⟩, hb3⟩
          have hown3 : w3.ownsRow w.heap.size 5 1 u (body gen (recs.take (k + 1))).length (ub (body gen (recs.take (k + 1)))) := by
            have e2 : k3 = (bs ++ enc (82 :: l)).length := by rw [hk3, List.length_append, enc_length, List.length_cons]; omega
            rw [e2, Hs.out] at hown
            exact own_lower hown hbel2.size
          have hbel3 := below_then hbel2 hb3
          clear hk3 hown hbel2 hb3 hrd2' hrdB
          go_wp2_with fail
          go_roundw
          case rel => exact ⟨k + 1, by omega, by go_num, hown3, hbel3⟩
          case measure => simp [intOf]; omega
      · obtain rfl : k = n := by omega
        rw [List.take_of_length_le (by have := hr.len; omega)] at hown
        have hbl : (body gen recs).length ≤ 74553 := by
          rw [bodyG_length]
          have := hr.len
          omega
        obtain ⟨B, c, rfl, _, hrd⟩ := own_rd hown
        have hbelA := hbel.alloc hbel.size (.cells #[.int .u8 69] 5 (1, 2))
        have hrdA := hrd.below ((Below.refl wr.heap.size wr).alloc (Nat.le_refl _) (.cells #[.int .u8 69] 5 (1, 2)))
        have hra : Rd (wr.alloc (.cells #[.int .u8 69] 5 (1, 2))) (some ⟨wr.heap.size, 0, none⟩) 1 (ub [69]) := marked_rd wr 69
        have kcr := kc wr
        have hfo : body gen recs ++ enc [69] = fileOf gen recs := rfl
        have Hfo := Lib.hid hfo
        clear hown hrd hfo
        generalize hbs : body gen recs = bs at *
        clear hbs
        go_wp2_with fail
        refine (ref3put_calls B _ bs.length c 1 1 bs [69] _ hrdA hra (by decide) (by omega) (by decide)).mono ?_
        rintro e w3 ⟨⟨u, k3, rfl, hk3, hown⟩, hb3⟩
        have hbel3 := below_then hbelA hb3
        have hown3 := own_lower hown hbelA.size
        have ht3 := ht.below hbel3
        have htl := ht.len
        rw [Hfo.out] at hown3
        have Hk3 := Lib.hid hk3
        have hkb : k3 ≤ 80000 := by omega
        clear hk3 hown hbelA hb3 hra hrdA kcr hbl
        go_wp2_with (at_builtin; refine wpList_app rfl _ _ _ rfl 5 (.int .u8 0) 1 Try.underlying35 info_u8 rfl (by decide) w.heap.size rfl hown3 rfl ht3 (ub_one _) ?_ ?_ ?_)
        case _ => omega
        case _ => exact hbel3.size
        case _ =>
          intro v' w4 hown4 hg4 _
          have hb4 := hbel3.grown hg4 hbel3.size (fun k hk => own_base hown3 k hk)
          rw [← ub_append] at hown4
          have hlen : k3 + tn = (fileOf gen recs ++ tail).length := by rw [← Hfo.out, List.length_append, List.length_append, enc_length, Hk3.out, htl]; simp
          have Hfin := Lib.hid (And.intro hown4 (And.intro hlen hb4))
          clear hown4 hg4 hb4 hown3 ht3 htl hlen hbel3
          go_wp2
          go_ret
          exact ⟨⟨_, _, rfl, Hfin.out.2.1, Hfin.out.1⟩, Hfin.out.2.2⟩
end Go.Proofs.Ythcajaadbdiggaa
