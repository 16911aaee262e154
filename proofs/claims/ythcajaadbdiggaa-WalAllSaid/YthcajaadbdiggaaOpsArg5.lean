/- The operations of the laws of wal as an argument. -/
import Derived.Test.YthcajaadbdiggaaRows
import Derived.Test.YthcajaadbdiggaaOwn
import Derived.Test.YthcajaadbdiggaaLaw0
namespace Go.Proofs.Ythcajaadbdiggaa
set_option maxRecDepth 1000000
open Go.RowKit

structure Op5 where
  kind : Int
  n : Int
  made : Bool
  b : List UInt8
  l : List (List UInt8)
  keep : List Int

def i64ok (z : Int) : Prop := -9223372036854775808 ≤ z ∧ z ≤ 9223372036854775807
structure Op5.Ok (o : Op5) : Prop where
  kind : i64ok o.kind
  n : i64ok o.n
  keep : ∀ z ∈ o.keep, i64ok z

/-- an operation that lies at an address -/
def OpAt5 (w : World) (g q : Nat) (o : Op5) : Prop :=
  o.Ok ∧ ∃ B cb C cl K ck, w.cell? ⟨g, q, none⟩ = some (.int .i64 o.kind) ∧ w.cell? ⟨g, q + 1, none⟩ = some (.int .i64 o.n) ∧ w.cell? ⟨g, q + 2, none⟩ = some (.bool o.made) ∧ w.cell? ⟨g, q + 3, none⟩ = some (.slice B o.b.length cb) ∧ w.cell? ⟨g, q + 4, none⟩ = some (.slice C o.l.length cl) ∧ w.cell? ⟨g, q + 5, none⟩ = some (.slice K o.keep.length ck) ∧
    o.b.length ≤ cb ∧ Rd w B o.b.length (ub o.b) ∧ o.l.length ≤ cl ∧ RdL w C o.l.length o.l ∧ o.keep.length ≤ ck ∧ Rd w K o.keep.length (o.keep.map (Value.int .i64))
def RdOps (w : World) (A : Option Addr) (n : Nat) (os : List Op5) : Prop :=
  os.length = n ∧ (0 < n → ∃ g q, A = some ⟨g, q, none⟩ ∧ ∀ j o, os[j]? = some o → OpAt5 w g (q + j * 6) o)
theorem OpAt5.move {w w' : World} {g q : Nat} {o : Op5} (h : OpAt5 w g q o) (hm : ∀ a v, w.cell? a = some v → w'.cell? a = some v) : OpAt5 w' g q o := by
  obtain ⟨hok, B, cb, C, cl, K, ck, h0, h1, h2, h3, h4, h5, h6, h7, h8, h9, h10, h11⟩ := h
  exact ⟨hok, B, cb, C, cl, K, ck, hm _ _ h0, hm _ _ h1, hm _ _ h2, hm _ _ h3, hm _ _ h4, hm _ _ h5, h6, h7.move hm, h8, h9.move hm, h10, h11.move hm⟩
theorem RdOps.move {w w' : World} {A : Option Addr} {n : Nat} {os : List Op5} (h : RdOps w A n os) (hm : ∀ a v, w.cell? a = some v → w'.cell? a = some v) : RdOps w' A n os :=
  ⟨h.1, fun hn => by obtain ⟨g, q, e, hc⟩ := h.2 hn; exact ⟨g, q, e, fun j o ho => (hc j o ho).move hm⟩⟩
theorem RdOps.below {w w' : World} {A : Option Addr} {n : Nat} {os : List Op5} (h : RdOps w A n os) (hb : Below w.heap.size w w') : RdOps w' A n os :=
  h.move fun a _ hc => (hb.cell (World.block_lt_of_cell? w a hc)).trans hc
theorem RdOps.at_ {w : World} {A : Option Addr} {n : Nat} {os : List Op5} (h : RdOps w A n os) {k : Nat} (hk : k < n) : ∃ g q o, A = some ⟨g, q, none⟩ ∧ os[k]? = some o ∧ OpAt5 w g (q + k * 6) o := by
  obtain ⟨g, q, e, hc⟩ := h.2 (by omega)
  have hl : k < os.length := by have := h.1; omega
  exact ⟨g, q, os[k], e, List.getElem?_eq_getElem hl, hc k _ (List.getElem?_eq_getElem hl)⟩

/-- what light tells -/
def Light1 (o : Op5) : Prop := o.b.length ≤ 300 ∧ o.l.length ≤ 10 ∧ o.l.flatten.length ≤ 2000 ∧ o.keep.length ≤ 10
def LightOk (os : List Op5) (n most : Nat) : Prop := n ≤ most ∧ ∀ o ∈ os, Light1 o
set_option maxHeartbeats 1000000 in
theorem light_calls (A : Option Addr) (n cap : Nat) (os : List Op5) (most : Nat) (w : World) (hr : RdOps w A n os) (hn : n ≤ 140737488355328) (hm : most ≤ 2147483648) :
    Calls Try.prog 10 #[.slice A n cap, .int .i64 (most : Int)] w fun e w' => ((e = .returned (.bool true) ∧ LightOk os n most) ∨ e = .returned (.bool false)) ∧ w = w' := by
  go_enter Try.func10, Try.ntmps10
  by_cases hnm : n ≤ most
  · have hnm' : (n : Int) ≤ most := by omega
    have hd : decide (most < n) = false := decide_eq_false (by omega)
    go_wp2_with fail
    go_loop [5] (fun i => ∃ k : Nat, k ≤ n ∧ i = .int .i64 k ∧ Hid (∀ j o, j < k → os[j]? = some o → Light1 o)) (fun i => n - (intOf i).toNat)
    case atStart => exact ⟨0, Nat.zero_le _, rfl, fun j o hj => absurd hj (by omega)⟩
    case round =>
      obtain ⟨k, hk, rfl, H⟩ := hrel
      by_cases hlt : k < n
      · obtain ⟨g, q, o, rfl, ho, hok, B, cb, C, cl, K, ck, h0, h1, h2, h3, h4, h5, h6, h7, h8, h9, h10, h11⟩ := hr.at_ hlt
        have hk1 : (k : Int) < n := by omega
        have Hn : Hid (Light1 o → ∀ j o, j < k + 1 → os[j]? = some o → Light1 o) := Lib.hid (fun e1 j o' hj hj' => by
          rcases Nat.lt_or_ge j k with h | h
          · exact H.out j o' h hj'
          · obtain rfl : j = k := by omega
            rw [ho] at hj'
            injection hj' with hj'
            subst hj'
            exact e1)
        clear ho h0 h1 h2 h6 h7 h8 h10 h11
        by_cases hb : o.b.length ≤ 300
        · by_cases hl : o.l.length ≤ 10
          · have hsum := sum0_calls C o.l.length cl o.l 2000 w h9 (by omega) (by decide)
            have Hn2 := Lib.hid (fun e1 e2 => Hn.out ⟨hb, hl, e1, e2⟩)
            clear Hn h9
            generalize o.b.length = x at *
            generalize o.l.length = y at *
            generalize o.keep.length = z at *
            generalize o.l.flatten.length = f at *
            go_wp2_with fail
            refine hsum.mono ?_
            rintro e w2 ⟨⟨r, rfl, hr2⟩, rfl⟩
            by_cases hr3 : r ≤ 2000
            · have hf : Hid (f ≤ 2000) := Lib.hid (by rw [← hr2 hr3]; exact hr3)
              clear hr2
              by_cases hz : z ≤ 10
              · go_wp2_with fail
                go_round
                case rel => exact ⟨k + 1, by omega, by go_num, Hn2.out hf.out hz⟩
                case measure => simp [intOf]; omega
              · go_wp2_with fail
                go_ret
                exact ⟨.inr rfl, rfl⟩
            · clear hr2
              go_wp2_with fail
              go_ret
              exact ⟨.inr rfl, rfl⟩
          · clear Hn h9
            generalize o.b.length = x at *
            generalize o.l.length = y at *
            go_wp2_with fail
            go_ret
            exact ⟨.inr rfl, rfl⟩
        · clear Hn h9
          generalize o.b.length = x at *
          go_wp2_with fail
          go_ret
          exact ⟨.inr rfl, rfl⟩
      · obtain rfl : k = n := by omega
        have Hfin : Hid (LightOk os k most) := Lib.hid ⟨hnm, fun o ho => by
          obtain ⟨j, hj⟩ := List.mem_iff_getElem?.1 ho
          have := (List.getElem?_eq_some_iff.1 hj).1
          exact H.out j o (by have := hr.1; omega) hj⟩
        go_wp2_with fail
        go_ret
        exact ⟨.inl ⟨rfl, Hfin.out⟩, rfl⟩
  · have hnm' : (most : Int) < n := by omega
    go_wp2_with fail
    go_ret
    exact ⟨.inr rfl, rfl⟩
end Go.Proofs.Ythcajaadbdiggaa
