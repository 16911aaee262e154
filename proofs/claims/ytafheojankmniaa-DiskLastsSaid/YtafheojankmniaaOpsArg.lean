/- The operations of the laws of disk as an argument. -/
import Derived.Test.YtafheojankmniaaRows
import Derived.Test.YtafheojankmniaaOwn
namespace Go.Proofs.Ytafheojankmniaa
open Go.RowKit

structure Op4 where
  kind : Int
  f : Int
  n : Int
  b : List UInt8
  keep : List Int

def i64ok (z : Int) : Prop := -9223372036854775808 ≤ z ∧ z ≤ 9223372036854775807
structure Op4.Ok (o : Op4) : Prop where
  kind : i64ok o.kind
  f : i64ok o.f
  n : i64ok o.n
  keep : ∀ z ∈ o.keep, i64ok z

/-- the value of an operation, its bytes at B, its keep at K -/
abbrev opV (o : Op4) (B : Option Addr) (cb : Nat) (K : Option Addr) (ck : Nat) : Value := .agg #[.int .i64 o.kind, .int .i64 o.f, .int .i64 o.n, .slice B o.b.length cb, .slice K o.keep.length ck]
/-- an operation that lies at an address -/
def OpAt (w : World) (g q : Nat) (o : Op4) : Prop :=
  o.Ok ∧ ∃ B cb K ck, w.cell? ⟨g, q, none⟩ = some (.int .i64 o.kind) ∧ w.cell? ⟨g, q + 1, none⟩ = some (.int .i64 o.f) ∧ w.cell? ⟨g, q + 2, none⟩ = some (.int .i64 o.n) ∧ w.cell? ⟨g, q + 3, none⟩ = some (.slice B o.b.length cb) ∧ w.cell? ⟨g, q + 4, none⟩ = some (.slice K o.keep.length ck) ∧
    o.b.length ≤ cb ∧ Rd w B o.b.length (ub o.b) ∧ o.keep.length ≤ ck ∧ Rd w K o.keep.length (o.keep.map (Value.int .i64))
def RdOps (w : World) (A : Option Addr) (n : Nat) (os : List Op4) : Prop :=
  os.length = n ∧ (0 < n → ∃ g q, A = some ⟨g, q, none⟩ ∧ ∀ j o, os[j]? = some o → OpAt w g (q + j * 5) o)
theorem OpAt.move {w w' : World} {g q : Nat} {o : Op4} (h : OpAt w g q o) (hm : ∀ a v, w.cell? a = some v → w'.cell? a = some v) : OpAt w' g q o := by
  obtain ⟨hok, B, cb, K, ck, h0, h1, h2, h3, h4, h5, h6, h7, h8⟩ := h
  exact ⟨hok, B, cb, K, ck, hm _ _ h0, hm _ _ h1, hm _ _ h2, hm _ _ h3, hm _ _ h4, h5, h6.move hm, h7, h8.move hm⟩
theorem RdOps.move {w w' : World} {A : Option Addr} {n : Nat} {os : List Op4} (h : RdOps w A n os) (hm : ∀ a v, w.cell? a = some v → w'.cell? a = some v) : RdOps w' A n os :=
  ⟨h.1, fun hn => by obtain ⟨g, q, e, hc⟩ := h.2 hn; exact ⟨g, q, e, fun j o ho => (hc j o ho).move hm⟩⟩
theorem RdOps.below {w w' : World} {A : Option Addr} {n : Nat} {os : List Op4} (h : RdOps w A n os) (hb : Below w.heap.size w w') : RdOps w' A n os :=
  h.move fun a _ hc => (hb.cell (World.block_lt_of_cell? w a hc)).trans hc
theorem RdOps.at_ {w : World} {A : Option Addr} {n : Nat} {os : List Op4} (h : RdOps w A n os) {k : Nat} (hk : k < n) : ∃ g q o, A = some ⟨g, q, none⟩ ∧ os[k]? = some o ∧ OpAt w g (q + k * 5) o := by
  obtain ⟨g, q, e, hc⟩ := h.2 (by omega)
  have hl : k < os.length := by have := h.1; omega
  exact ⟨g, q, os[k], e, List.getElem?_eq_getElem hl, hc k _ (List.getElem?_eq_getElem hl)⟩

/-- what Light tells -/
def LightOk (os : List Op4) (n most : Nat) : Prop := n ≤ most ∧ ∀ o ∈ os, o.b.length ≤ 1000 ∧ o.keep.length ≤ 10
set_option maxHeartbeats 1000000 in
theorem light_calls (A : Option Addr) (n cap : Nat) (os : List Op4) (most : Nat) (w : World) (hr : RdOps w A n os) (hn : n ≤ 140737488355328) (hm : most ≤ 2147483648) :
    Calls Try.prog 14 #[.slice A n cap, .int .i64 (most : Int)] w fun e w' => ((e = .returned (.bool true) ∧ LightOk os n most) ∨ e = .returned (.bool false)) ∧ w = w' := by
  go_enter Try.func14, Try.ntmps14
  by_cases hnm : n ≤ most
  · have hnm' : (n : Int) ≤ most := by omega
    go_wp2_with fail
    go_loop [5] (fun i => ∃ k : Nat, k ≤ n ∧ i = .int .i64 k ∧ Hid (∀ j o, j < k → os[j]? = some o → o.b.length ≤ 1000 ∧ o.keep.length ≤ 10)) (fun i => n - (intOf i).toNat)
    case atStart => exact ⟨0, Nat.zero_le _, rfl, fun j o hj => absurd hj (by omega)⟩
    case round =>
      obtain ⟨k, hk, rfl, H⟩ := hrel
      by_cases hlt : k < n
      · obtain ⟨g, q, o, rfl, ho, hok, B, cb, K, ck, h0, h1, h2, h3, h4, h5, h6, h7, h8⟩ := hr.at_ hlt
        have hk1 : (k : Int) < n := by omega
        have Hn : Hid (o.b.length ≤ 1000 → o.keep.length ≤ 10 → ∀ j o, j < k + 1 → os[j]? = some o → o.b.length ≤ 1000 ∧ o.keep.length ≤ 10) := Lib.hid (fun e1 e2 j o' hj hj' => by
          rcases Nat.lt_or_ge j k with h | h
          · exact H.out j o' h hj'
          · obtain rfl : j = k := by omega
            rw [ho] at hj'
            injection hj' with hj'
            subst hj'
            exact ⟨e1, e2⟩)
        clear ho h0 h1 h2 h5 h6 h7 h8
        generalize o.b.length = x at *
        generalize o.keep.length = y at *
        by_cases hb : x ≤ 1000
        · by_cases hkp : y ≤ 10
          · go_wp2_with fail
            go_round
            case rel => exact ⟨k + 1, by omega, by go_num, Hn.out hb hkp⟩
            case measure => simp [intOf]; omega
          · go_wp2_with fail
            go_ret
            exact ⟨.inr rfl, rfl⟩
        · go_wp2_with fail
          go_ret
          exact ⟨.inr rfl, rfl⟩
      · obtain rfl : k = n := by omega
        have Hfin : Hid (LightOk os k most) := Lib.hid ⟨hnm, fun o ho => by
          obtain ⟨j, hj⟩ := List.mem_iff_getElem?.1 ho
          have := (List.getElem?_eq_some_iff.1 hj).1
          exact H.out j o (by have := hr.1; omega) hj⟩
        go_wp2_with fail
        go_ret
        exact ⟨.inl ⟨rfl, Hfin.out⟩, rfl⟩
  · have hnm' : (most : Int) < n := by omega
    go_wp2_with fail
    go_ret
    exact ⟨.inr rfl, rfl⟩
end Go.Proofs.Ytafheojankmniaa
