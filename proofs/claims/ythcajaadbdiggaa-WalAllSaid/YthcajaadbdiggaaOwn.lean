/- Appends onto rows of the call's own; bytes to text; quiet calls. -/
import Derived.Test.YthcajaadbdiggaaBase
import Derived.Maps.AppendAt
import Derived.Deep.AppendLies
import Derived.RegionTactic
import Derived.OwnWalk
import Derived.Laws.MakeOwn
import Derived.Laws.OwnMore
import Derived.Laws.CopyOwn
import Derived.Laws.Slices
import Derived.Deep.QuietTactic
import Derived.BigQuiet
import Derived.Laws.IdiomStrings
import Derived.Laws.BytesString
import Derived.Laws.BytesArg
import Derived.Deep.OwnRows
namespace Go.Proofs.Ythcajaadbdiggaa
open Go.RowKit

section
variable {P : Program} (w : World)

theorem run_append_of_nil (base : Nat) (t ty e : TypeId) (i : TypeInfo) (size : Nat) (ht : P.underlying t = some (.slice e)) (hi : P.info? e = some i)
    (v : Value) (n : Nat) (xs : List Value) (hown : w.ownsRow base e size v n xs) (c : Nat) : (Builtin.append_ #[t, t] ty #[v, .slice none 0 c]).run P w = .ok v w := by
  rcases hown.2 with ⟨rfl, rfl⟩ | ⟨g, cap, cur, rfl, _, _, hnc, _⟩
  · simp [Builtin.append_, run_underlying ht, sizeOf, typeInfo, hi, Builtin.lenOf, Builtin.firstCells]
  · simp [Builtin.append_, run_underlying ht, sizeOf, typeInfo, hi, Builtin.lenOf, Builtin.firstCells, hnc, storeCells]

theorem run_append_any (base : Nat) (t ty e : TypeId) (i : TypeInfo) (z : Value) (size bytes : Nat) (ht : P.underlying t = some (.slice e)) (hi : P.info? e = some i) (hz : i.zero = some z)
    (hsize : i.size = size) (hby : i.bytes = bytes) (hzs : z.cells.size = size) (hsz : 0 < size)
    (v : Value) (n : Nat) (xs : List Value) (hown : w.ownsRow base e size v n xs)
    (A : Option Addr) (m c : Nat) (news : List Value) (hr : Rd w A m news) (hs1 : size = 1) (h1 : ∀ u ∈ news, u.oneCell' = true)
    (h63 : n + m ≤ maxLen) (hbytes : (n + m) * bytes ≤ 140737488355328) (hbase : base ≤ w.heap.size) :
    ∃ v' w', (Builtin.append_ #[t, t] ty #[v, .slice A m c]).run P w = .ok v' w' ∧ w'.ownsRow base e size v' (n + m) (xs ++ news) ∧ w.grownBy w' v.ownBlock ∧
      (v'.ownBlock = v.ownBlock ∨ v'.ownBlock = some w.heap.size) := by
  rcases A with _ | ad
  · have hm : m = 0 := by
      rcases Nat.eq_zero_or_pos m with h0 | h0
      · exact h0
      · obtain ⟨ad, h, _⟩ := hr.2 h0
        cases h
    subst hm
    have hn : news = [] := List.eq_nil_of_length_eq_zero (by simpa using hr.1)
    subst hn
    exact ⟨v, w, run_append_of_nil w base t ty e i size ht hi v n xs hown c, by simpa using hown, World.grownBy.refl w _, .inl rfl⟩
  · have hcells : ∀ j u, news[j]? = some u → w.cell? (ad.add j) = some u := by
      intro j u hu
      rcases Nat.eq_zero_or_pos m with h0 | h0
      · subst h0
        have hn : news = [] := List.eq_nil_of_length_eq_zero (by simpa using hr.1)
        subst hn
        simp at hu
      · obtain ⟨ad', h, hc⟩ := hr.2 h0
        injection h with h
        subst h
        exact hc j u hu
    obtain ⟨v', w', hrun, h2, h3, _, h5⟩ := run_append_own_at (P := P) w base t ty e i z size bytes ht hi hz hsize hby hzs hsz v n xs hown ad m c news (by rw [hr.1, hs1, Nat.mul_one]) hcells h1 h63 hbytes hbase
    exact ⟨v', w', hrun, h2, h3, h5⟩

theorem wp_append_any {o : Oper} {a : Act} {K : Act → World → Prop} {Q : Exit → Act → World → Prop} (s x : Operand) (t : TypeId)
    (ho : o.op = .call { callee := .builtin .append, args := #[s, x], argTypes := #[t, t] })
    (base : Nat) (e : TypeId) (i : TypeInfo) (z : Value) (size bytes : Nat) (ht : P.underlying t = some (.slice e)) (hi : P.info? e = some i) (hz : i.zero = some z)
    (hsize : i.size = size) (hby : i.bytes = bytes) (hzs : z.cells.size = size) (hsz : 0 < size)
    (v : Value) (n : Nat) (xs : List Value) (hs : a.eval s = v) (hown : w.ownsRow base e size v n xs)
    (A : Option Addr) (m c : Nat) (news : List Value) (hx : a.eval x = .slice A m c) (hr : Rd w A m news) (hs1 : size = 1) (h1 : ∀ u ∈ news, u.oneCell' = true)
    (h63 : n + m ≤ maxLen) (hbytes : (n + m) * bytes ≤ 140737488355328) (hbase : base ≤ w.heap.size)
    (h : ∀ v' w', w'.ownsRow base e size v' (n + m) (xs ++ news) → w.grownBy w' v.ownBlock → (v'.ownBlock = v.ownBlock ∨ v'.ownBlock = some w.heap.size) → K (a.put o.dst v') w') : o.wp P a w K Q := by
  obtain ⟨v', w', hrun, h2, h3, h4⟩ := run_append_any (P := P) w base t o.type e i z size bytes ht hi hz hsize hby hzs hsz v n xs hown A m c news hr hs1 h1 h63 hbytes hbase
  unfold Oper.wp execOp
  simp only [ho, resolve, invoke, builtin, Sem.run_bind, Sem.run_pure, Result.andThen_ok, List.map_toArray, List.map_cons, List.map_nil, hs, hx, hrun]
  exact h v' w' h2 h3 h4

theorem wpList_append_any {ops : Array Oper} {rest : List Oper} {o : Oper} {a : Act} {Q : Exit → Act → World → Prop} (hgd : o.guard = none) (s x : Operand) (t : TypeId)
    (ho : o.op = .call { callee := .builtin .append, args := #[s, x], argTypes := #[t, t] })
    (base : Nat) (e : TypeId) (i : TypeInfo) (z : Value) (size bytes : Nat) (ht : P.underlying t = some (.slice e)) (hi : P.info? e = some i) (hz : i.zero = some z)
    (hsize : i.size = size) (hby : i.bytes = bytes) (hzs : z.cells.size = size) (hsz : 0 < size)
    (v : Value) (n : Nat) (xs : List Value) (hs : a.eval s = v) (hown : w.ownsRow base e size v n xs)
    (A : Option Addr) (m c : Nat) (news : List Value) (hx : a.eval x = .slice A m c) (hr : Rd w A m news) (hs1 : size = 1) (h1 : ∀ u ∈ news, u.oneCell' = true)
    (h63 : n + m ≤ maxLen) (hbytes : (n + m) * bytes ≤ 140737488355328) (hbase : base ≤ w.heap.size)
    (h : ∀ v' w', w'.ownsRow base e size v' (n + m) (xs ++ news) → w.grownBy w' v.ownBlock → (v'.ownBlock = v.ownBlock ∨ v'.ownBlock = some w.heap.size) → wpList P ops Q rest (a.put o.dst v') w') : wpList P ops Q (o :: rest) a w :=
  wpList_plain hgd fun _ hK => wp_append_any w s x t ho base e i z size bytes ht hi hz hsize hby hzs hsz v n xs hs hown A m c news hx hr hs1 h1 h63 hbytes hbase fun v' w' h2 h3 h4 => hK _ _ (h v' w' h2 h3 h4)

theorem step_append_any {ops : Array Oper} {o : Oper} {a : Act} {K : Act → World → Prop} {Q : Exit → Act → World → Prop} {E : Prop} (hgd : o.guard = none) (s x : Operand) (t : TypeId)
    (ho : o.op = .call { callee := .builtin .append, args := #[s, x], argTypes := #[t, t] })
    (base : Nat) (e : TypeId) (i : TypeInfo) (z : Value) (size bytes : Nat) (ht : P.underlying t = some (.slice e)) (hi : P.info? e = some i) (hz : i.zero = some z)
    (hsize : i.size = size) (hby : i.bytes = bytes) (hzs : z.cells.size = size) (hsz : 0 < size)
    (v : Value) (n : Nat) (xs : List Value) (hs : a.eval s = v) (hown : w.ownsRow base e size v n xs)
    (A : Option Addr) (m c : Nat) (news : List Value) (hx : a.eval x = .slice A m c) (hr : Rd w A m news) (hs1 : size = 1) (h1 : ∀ u ∈ news, u.oneCell' = true)
    (h63 : n + m ≤ maxLen) (hbytes : (n + m) * bytes ≤ 140737488355328) (hbase : base ≤ w.heap.size)
    (h : ∀ v' w', w'.ownsRow base e size v' (n + m) (xs ++ news) → w.grownBy w' v.ownBlock → (v'.ownBlock = v.ownBlock ∨ v'.ownBlock = some w.heap.size) → K (a.put o.dst v') w') :
    if Region.wanted o (yielded ops a.tmps) = true then Oper.wp P o a w K Q else E := by
  have hw : Region.wanted o (yielded ops a.tmps) = true := by simp [Region.wanted, hgd]
  rw [if_pos hw]
  exact wp_append_any w s x t ho base e i z size bytes ht hi hz hsize hby hzs hsz v n xs hs hown A m c news hx hr hs1 h1 h63 hbytes hbase h
end

theorem wpList_app {P : Program} {w : World} {ops : Array Oper} {rest : List Oper} {o : Oper} {a : Act} {Q : Exit → Act → World → Prop} (hgd : o.guard = none) (s x : Operand) (t : TypeId)
    (ho : o.op = .call { callee := .builtin .append, args := #[s, x], argTypes := #[t, t] }) (e : TypeId) (z : Value) (bytes : Nat)
    (ht : P.underlying t = some (.slice e)) (hi : (P.info? e).map (fun i => (i.zero, i.size, i.bytes)) = some (some z, 1, bytes)) (hzs : z.cells.size = 1) (hb0 : 0 < bytes)
    (base : Nat) {v : Value} {n : Nat} {xs : List Value} (hs : a.eval s = v) (hown : w.ownsRow base e 1 v n xs)
    {A : Option Addr} {m c : Nat} {news : List Value} (hx : a.eval x = .slice A m c) (hr : Rd w A m news) (h1 : ∀ u ∈ news, u.oneCell' = true)
    (hb : (n + m) * bytes ≤ 140737488355328) (hbase : base ≤ w.heap.size)
    (h : ∀ v' w', w'.ownsRow base e 1 v' (n + m) (xs ++ news) → w.grownBy w' v.ownBlock → (v'.ownBlock = v.ownBlock ∨ v'.ownBlock = some w.heap.size) → wpList P ops Q rest (a.put o.dst v') w') : wpList P ops Q (o :: rest) a w := by
  obtain ⟨i, hi0, hz0, hz1, hz2⟩ := info_parts hi
  have : n + m ≤ (n + m) * bytes := Nat.le_mul_of_pos_right _ hb0
  exact wpList_append_any w hgd s x t ho base e i z 1 bytes ht hi0 hz0 hz1 hz2 hzs (by decide) v n xs hs hown A m c news hx hr rfl h1 (by unfold maxLen; omega) hb hbase h

theorem ub_one (xs : List UInt8) : ∀ u ∈ ub xs, u.oneCell' = true := by
  intro u hu; simp only [ub, List.mem_map] at hu; obtain ⟨x, _, rfl⟩ := hu; rfl

/-- what is owned reads -/
theorem own_rd {w : World} {base n : Nat} {e : TypeId} {v : Value} {xs : List Value} (h : w.ownsRow base e 1 v n xs) : ∃ A c, v = .slice A n c ∧ n ≤ c ∧ Rd w A n xs := by
  have hl := h.1
  rcases h.2 with ⟨rfl, rfl⟩ | ⟨g, cap, cur, rfl, hg, hh, hle, hm, hs, hc⟩
  · simp at hl; subst hl; exact ⟨_, _, rfl, Nat.le_refl _, Rd.none_ _ _⟩
  · refine ⟨_, _, rfl, hle, by omega, fun _ => ⟨_, rfl, fun j u hu => ?_⟩⟩
    exact h.cells (g := g) rfl j u hu

/-- a text of bytes -/
def txt (xs : List UInt8) : ByteArray := ⟨xs.toArray⟩
theorem txt_toList (xs : List UInt8) : (txt xs).data.toList = xs := rfl
theorem txt_size (xs : List UInt8) : (txt xs).size = xs.length := rfl

theorem run_str {P : Program} {src dst e : TypeId} (hs : P.underlying src = some (.slice e)) (he : P.underlying e = some (.int .u8)) (hd : P.underlying dst = some .string)
    {w : World} {A : Option Addr} {n : Nat} {xs : List UInt8} (h : Rd w A n (ub xs)) (c : Nat) : (convert src dst (.slice A n c)).run P w = .ok (.string (txt xs)) w := by
  have hl := h.len
  rcases A with _ | ad
  · rcases Nat.eq_zero_or_pos n with h0 | h0
    · subst h0
      have : xs = [] := List.eq_nil_of_length_eq_zero hl
      subst this
      exact run_convert_bytes_nil w src e hs he 0 c dst hd
    · obtain ⟨_, e, _⟩ := h.2 h0; cases e
  · subst hl
    refine run_convert_bytes_back w src dst e ad c xs hs he hd (fun j hj => ?_)
    obtain ⟨ad', e, hc⟩ := h.2 (by omega)
    injection e with e; subst e
    exact hc j _ (by rw [ub_get, List.getElem?_eq_getElem hj]; rfl)

theorem own_ne_blk {w : World} {base : Nat} {e t : TypeId} {size n g : Nat} {v : Value} {xs : List Value} {cs : Array Value} {fr : Nat × Nat} (h : w.ownsRow base e size v n xs) (hg : w.heap[g]? = some (.cells cs t fr)) (hne : e ≠ t) : some g ≠ v.ownBlock := by
  rcases h.2 with ⟨rfl, _⟩ | ⟨g', cap, cur, rfl, _, hh, _⟩
  · simp [Value.ownBlock]
  · intro he
    have : g' = g := by simpa [Value.ownBlock] using he.symm
    subst this
    rw [hh] at hg
    injection hg with hg
    injection hg with _ ht
    exact hne ht
theorem own_below {w w1 : World} {base n size : Nat} {e : TypeId} {v : Value} {xs : List Value} (h : w.ownsRow base e size v n xs) (hb : Below w.heap.size w w1) : w1.ownsRow base e size v n xs :=
  h.kept (row := none) ⟨hb.os, hb.tape, hb.output, hb.size, fun i hi _ => hb.block i hi⟩ (by cases v.ownBlock <;> simp)
theorem below_then {w w1 w2 : World} (h : Below w.heap.size w w1) (k : Below w1.heap.size w1 w2) : Below w.heap.size w w2 := h.trans (k.mono h.size)
theorem heap_lt {w : World} {g : Nat} {o : Obj} (h : w.heap[g]? = some o) : g < w.heap.size := (Array.getElem?_eq_some_iff.1 h).1
theorem rd_one (w : World) (v : Value) (t : TypeId) : Rd (w.alloc (.cells #[v] t)) (some ⟨w.heap.size, 0, none⟩) 1 [v] :=
  Rd.of_row (r := []) (alloc_new w _ _ rfl) rfl rfl
theorem one_one {v : Value} (h : v.oneCell' = true) : ∀ u ∈ [v], u.oneCell' = true := by intro u hu; simp at hu; subst hu; exact h

theorem quiet_left {P : Program} {f : FuncId} {args : Array Value} {w : World} {n : Nat} {v : Value}
    (h : Calls P f args (w.drewN n) fun e w' => e = .returned v ∧ w.drewN n = w') : Calls P f args (w.drewN n) fun e w'' => e = .returned v ∧ ∃ m, w'' = w.drewN m :=
  h.mono fun _ _ ⟨he, hm⟩ => ⟨he, n, hm.symm⟩
theorem quiet_add_left {P : Program} {f : FuncId} {args : Array Value} {w : World} {a n : Nat} {v : Value}
    (h : Calls P f args (w.drewN (a + n)) fun e w' => e = .returned v ∧ w.drewN (a + n) = w') :
    Calls P f args (w.drewN (a + n)) fun e w'' => e = .returned v ∧ ∃ m, w'' = w.drewN (a + m) :=
  h.mono fun _ _ ⟨he, hm⟩ => ⟨he, n, hm.symm⟩

theorem Rd.take {w : World} {A : Option Addr} {n m : Nat} {cs : List Value} (h : Rd w A n cs) (hm : m ≤ n) : Rd w A m (cs.take m) := by
  refine ⟨by rw [List.length_take, h.1]; omega, fun h0 => ?_⟩
  obtain ⟨ad, e, hc⟩ := h.2 (by omega)
  refine ⟨ad, e, fun j u hu => hc j u ?_⟩
  rcases Nat.lt_or_ge j m with h' | h'
  · rwa [List.getElem?_take_of_lt h'] at hu
  · rw [List.getElem?_eq_none (by simp; omega)] at hu; cases hu
theorem ub_take (xs : List UInt8) (m : Nat) : (ub xs).take m = ub (xs.take m) := by simp [ub]
theorem ub_drop (xs : List UInt8) (m : Nat) : (ub xs).drop m = ub (xs.drop m) := by simp [ub]

/-- 's[i:]', without a case on the capacity -/
theorem cut_lo {P : Program} {t e : TypeId} (ht : P.underlying t = some (.slice e)) (hsz : (P.info? e).map (·.size) = some 1) (A : Option Addr) (n c m : Nat) (i : Int) (hi : i = (m : Int)) (hm : m ≤ n) (hc : n ≤ c) :
    ∃ A' : Option Addr, (∀ W : World, (Instr.slice t (.slice A n c) (some (.int .i64 i)) none none).run P W = .ok (.slice A' (n - m) (c - m)) W) ∧ ∀ (w : World) (cs : List Value), Rd w A n cs → Rd w A' (n - m) (cs.drop m) := by
  subst hi
  obtain ⟨j, hj, hjs⟩ := Option.map_eq_some_iff.1 hsz
  refine ⟨if c = m then A else A.map (·.add m), fun W => ?_, fun w cs h => ⟨by rw [List.length_drop, h.1], fun h0 => ?_⟩⟩
  · have hel : P.elem t = e := by simp [Program.elem, ht]
    have hu : P.underlying t = some (.slice (P.elem t)) := by rw [hel]; exact ht
    rw [run_slice_l W t A n c hu .i64 (m : Int) (Int.natCast_nonneg _) (by omega), hel]
    simp [sizeOf, typeInfo, hj, hjs, sliced, Result.andThen]
  · obtain ⟨ad, rfl, hcell⟩ := h.2 (by omega)
    rw [if_neg (by omega)]
    refine ⟨ad.add m, rfl, fun j u hu => ?_⟩
    rw [add_add]
    exact hcell _ u (by rw [← hu, List.getElem?_drop])
theorem size_of_info {P : Program} {e : TypeId} {z : Value} {b : Nat} (h : (P.info? e).map (fun i => (i.zero, i.size, i.bytes)) = some (some z, 1, b)) : (P.info? e).map (·.size) = some 1 := by
  obtain ⟨i, hi, h2⟩ := Option.map_eq_some_iff.1 h
  rw [hi]; injection h2 with _ h2; injection h2 with h2 _; simp [h2]

/-- cells that are slices of bytes -/
def PL (w : World) (cs : List Value) (ls : List (List UInt8)) : Prop :=
  cs.length = ls.length ∧ ∀ (j : Nat) (l : List UInt8), ls[j]? = some l → ∃ B c, cs[j]? = some (Value.slice B l.length c) ∧ l.length ≤ c ∧ Rd w B l.length (ub l)
theorem PL.nil_ (w : World) : PL w [] [] := ⟨rfl, fun j l h => by simp at h⟩
theorem PL.move {w w' : World} {cs : List Value} {ls : List (List UInt8)} (h : PL w cs ls) (hm : ∀ a v, w.cell? a = some v → w'.cell? a = some v) : PL w' cs ls :=
  ⟨h.1, fun j l hl => by obtain ⟨B, c, h1, h2, h3⟩ := h.2 j l hl; exact ⟨B, c, h1, h2, h3.move hm⟩⟩
theorem PL.below {w w' : World} {cs : List Value} {ls : List (List UInt8)} (h : PL w cs ls) (hb : Below w.heap.size w w') : PL w' cs ls :=
  h.move fun a _ hc => (hb.cell (World.block_lt_of_cell? w a hc)).trans hc
theorem PL.snoc {w : World} {cs : List Value} {ls : List (List UInt8)} {l : List UInt8} {B : Option Addr} {n c : Nat} (h : PL w cs ls) (hr : Rd w B n (ub l)) (hc : n ≤ c) : PL w (cs ++ [Value.slice B n c]) (ls ++ [l]) := by
  have hn := hr.len
  subst hn
  refine ⟨by simp [h.1], fun j l' hl => ?_⟩
  rcases Nat.lt_or_ge j ls.length with hj | hj
  · rw [List.getElem?_append_left hj] at hl
    obtain ⟨B', c', h1, h2⟩ := h.2 j l' hl
    exact ⟨B', c', by rw [List.getElem?_append_left (by rw [h.1]; exact hj)]; exact h1, h2⟩
  · rw [List.getElem?_append_right hj] at hl
    have e0 : j - ls.length = 0 := by
      rcases Nat.eq_zero_or_pos (j - ls.length) with h0 | h0
      · exact h0
      · rw [List.getElem?_eq_none (by simp; omega)] at hl; cases hl
    rw [e0] at hl
    injection hl with hl
    subst hl
    exact ⟨B, c, by rw [List.getElem?_append_right (by rw [h.1]; exact hj), h.1, e0]; rfl, hc, hr⟩
theorem PL.rdl {w : World} {A : Option Addr} {n : Nat} {cs : List Value} {ls : List (List UInt8)} (h : PL w cs ls) (hr : Rd w A n cs) : RdL w A n ls := by
  refine ⟨h.1.symm.trans hr.1, fun hn => ?_⟩
  obtain ⟨ad, e, hc⟩ := hr.2 hn
  refine ⟨ad, e, fun j l hl => ?_⟩
  obtain ⟨B, c, h1, h2, h3⟩ := h.2 j l hl
  exact ⟨B, c, hc j _ h1, h2, h3⟩

theorem pl_one {w : World} {A : Option Addr} {n c : Nat} {xs : List UInt8} (h : Rd w A n (ub xs)) (hc : n ≤ c) : PL w [Value.slice A n c] [xs] := (PL.nil_ w).snoc h hc
theorem rdl_one {w : World} {A : Option Addr} {n c : Nat} {xs : List UInt8} (h : Rd w A n (ub xs)) (hc : n ≤ c) (t : TypeId) : RdL (w.alloc (.cells #[.slice A n c] t)) (some ⟨w.heap.size, 0, none⟩) 1 [xs] :=
  ((pl_one h hc).below ((Below.refl _ _).alloc (Nat.le_refl _) _)).rdl (rd_one w _ t)
theorem rdl_two {w : World} {A B : Option Addr} {n m c d : Nat} {xs ys : List UInt8} (h : Rd w A n (ub xs)) (hc : n ≤ c) (h2 : Rd w B m (ub ys)) (hd : m ≤ d) (t : TypeId) :
    RdL (w.alloc (.cells #[.slice A n c, .slice B m d] t)) (some ⟨w.heap.size, 0, none⟩) 2 [xs, ys] :=
  (((pl_one h hc).snoc h2 hd).below ((Below.refl _ _).alloc (Nat.le_refl _) _)).rdl (Rd.of_row (r := []) (alloc_new w _ _ rfl) rfl rfl)

theorem rdl_one_at {w : World} {A : Option Addr} {n c : Nat} {xs : List UInt8} (h : Rd w A n (ub xs)) (hc : n ≤ c) (t : TypeId) (g : Nat) (hg : g = w.heap.size) : RdL (w.alloc (.cells #[.slice A n c] t)) (some ⟨g, 0, none⟩) 1 [xs] := by
  subst hg; exact rdl_one h hc t
theorem rdl_two_at {w : World} {A B : Option Addr} {n m c d : Nat} {xs ys : List UInt8} (h : Rd w A n (ub xs)) (hc : n ≤ c) (h2 : Rd w B m (ub ys)) (hd : m ≤ d) (t : TypeId) (g : Nat) (hg : g = w.heap.size) :
    RdL (w.alloc (.cells #[.slice A n c, .slice B m d] t)) (some ⟨g, 0, none⟩) 2 [xs, ys] := by
  subst hg; exact rdl_two h hc h2 hd t

theorem own_empty (w : World) {base : Nat} (hb : base ≤ w.heap.size) (t : TypeId) : (w.alloc (.cells #[] t)).ownsRow base t 1 (.slice (some ⟨w.heap.size, 0, none⟩) 0 0) 0 [] :=
  ⟨rfl, .inr ⟨_, 0, #[], rfl, hb, alloc_new w _ _ rfl, Nat.le_refl _, by decide, rfl, rfl⟩⟩
theorem run_make_nc {P : Program} (t e : TypeId) (z : Value) (bytes : Nat) (ht : P.underlying t = some (.slice e)) (hinfo : (P.info? e).map (fun i => (i.zero, i.size, i.bytes)) = some (some z, 1, bytes))
    (n c : Nat) (N C : Int) (hN : N = (n : Int)) (hC : C = (c : Int)) (hnc : n ≤ c) (hbytes : bytes * c ≤ 281474976710656) (h63 : c ≤ 9223372036854775807) (w : World) :
    (Instr.makeSlice t (.int .i64 N) (.int .i64 C)).run P w = .ok (.slice (some ⟨w.heap.size, 0, none⟩) n c) (w.alloc (.cells (madeCells z.cells c) e)) := by
  subst hN hC
  obtain ⟨i, hi, hz, hs, hb⟩ := info_parts hinfo
  have hbb : (i.bytes : Int) * (c : Int) ≤ 281474976710656 := by
    have h : ((i.bytes * c : Nat) : Int) ≤ 281474976710656 := by rw [hb]; omega
    rwa [Int.natCast_mul] at h
  have hr := run_make (P := P) w t e i z ht hi hz .i64 .i64 n c (by omega) (by omega) hbb (by omega)
  simp only [Int.toNat_natCast, hs, Nat.mul_one] at hr
  exact hr
theorem own_made (w : World) {base : Nat} (hb : base ≤ w.heap.size) (e : TypeId) (z : Array Value) (c : Nat) (hc : c ≤ maxLen) : (w.alloc (.cells (madeCells z c) e)).ownsRow base e 1 (.slice (some ⟨w.heap.size, 0, none⟩) 0 c) 0 [] :=
  ⟨rfl, .inr ⟨_, c, _, rfl, hb, alloc_new w _ _ rfl, Nat.zero_le _, hc, by rw [size_madeCells, Nat.mul_one], by simp⟩⟩

theorem rd_mid {w : World} {A : Option Addr} {n l h m : Nat} {cs : List Value} (hr : Rd w A n cs) (hh : h ≤ n) (hm : h ≤ m) : Rd w (if m = l then A else A.map (·.add (l * 1))) (h - l) ((cs.drop l).take (h - l)) := by
  refine ⟨by rw [List.length_take, List.length_drop, hr.1]; omega, fun h0 => ?_⟩
  obtain ⟨ad, rfl, hcell⟩ := hr.2 (by omega)
  rw [if_neg (by omega), Nat.mul_one]
  refine ⟨ad.add l, rfl, fun j u hu => ?_⟩
  rw [add_add]
  refine hcell _ u ?_
  rcases Nat.lt_or_ge j (h - l) with h' | h'
  · rwa [List.getElem?_take_of_lt h', List.getElem?_drop] at hu
  · rw [List.getElem?_eq_none (by simp; omega)] at hu; cases hu
/-- 's[i:j]' -/
theorem cut_lh {P : Program} {t e : TypeId} (ht : P.underlying t = some (.slice e)) (hsz : (P.info? e).map (·.size) = some 1) (A : Option Addr) (n c l h : Nat) (i j : Int) (hi : i = (l : Int)) (hj : j = (h : Int)) (hlh : l ≤ h) (hh : h ≤ n) (hc : n ≤ c) :
    ∃ A' : Option Addr, (∀ W : World, (Instr.slice t (.slice A n c) (some (.int .i64 i)) (some (.int .i64 j)) none).run P W = .ok (.slice A' (h - l) (c - l)) W) ∧ ∀ (w : World) (cs : List Value), Rd w A n cs → Rd w A' (h - l) ((cs.drop l).take (h - l)) := by
  subst hi hj
  obtain ⟨q, hq, hqs⟩ := Option.map_eq_some_iff.1 hsz
  refine ⟨if c = l then A else A.map (·.add (l * 1)), fun W => ?_, fun w cs hr => rd_mid hr hh (by omega)⟩
  have hel : P.elem t = e := by simp [Program.elem, ht]
  have hu : P.underlying t = some (.slice (P.elem t)) := by rw [hel]; exact ht
  rw [run_slice_lh W t A n c hu .i64 .i64 (l : Int) (h : Int) (Int.natCast_nonneg _) (by omega) (by omega), hel]
  simp [sizeOf, typeInfo, hq, hqs, sliced, Result.andThen]
/-- 's[i:j:k]' -/
theorem cut_lhm {P : Program} {t e : TypeId} (ht : P.underlying t = some (.slice e)) (hsz : (P.info? e).map (·.size) = some 1) (A : Option Addr) (n c l h m : Nat) (i j k : Int) (hi : i = (l : Int)) (hj : j = (h : Int)) (hk : k = (m : Int)) (hlh : l ≤ h) (hh : h ≤ n) (hhm : h ≤ m) (hmc : m ≤ c) :
    ∃ A' : Option Addr, (∀ W : World, (Instr.slice t (.slice A n c) (some (.int .i64 i)) (some (.int .i64 j)) (some (.int .i64 k))).run P W = .ok (.slice A' (h - l) (m - l)) W) ∧ ∀ (w : World) (cs : List Value), Rd w A n cs → Rd w A' (h - l) ((cs.drop l).take (h - l)) := by
  subst hi hj hk
  obtain ⟨q, hq, hqs⟩ := Option.map_eq_some_iff.1 hsz
  refine ⟨if m = l then A else A.map (·.add (l * 1)), fun W => ?_, fun w cs hr => rd_mid hr hh hhm⟩
  have hel : P.elem t = e := by simp [Program.elem, ht]
  have hu : P.underlying t = some (.slice (P.elem t)) := by rw [hel]; exact ht
  rw [run_slice_lhm W t A n c hu .i64 .i64 .i64 (l : Int) (h : Int) (m : Int) (Int.natCast_nonneg _) (by omega) (by omega) (by omega), hel]
  simp [sizeOf, typeInfo, hq, hqs, sliced, Result.andThen]
/-- 's[:j:k]' -/
theorem cut_hm {P : Program} {t e : TypeId} (ht : P.underlying t = some (.slice e)) (hsz : (P.info? e).map (·.size) = some 1) (A : Option Addr) (n c h m : Nat) (j k : Int) (hj : j = (h : Int)) (hk : k = (m : Int)) (hh : h ≤ n) (hhm : h ≤ m) (hmc : m ≤ c) :
    ∃ A' : Option Addr, (∀ W : World, (Instr.slice t (.slice A n c) none (some (.int .i64 j)) (some (.int .i64 k))).run P W = .ok (.slice A' h m) W) ∧ ∀ (w : World) (cs : List Value), Rd w A n cs → Rd w A' h (cs.take h) := by
  subst hj hk
  obtain ⟨q, hq, hqs⟩ := Option.map_eq_some_iff.1 hsz
  refine ⟨if m = 0 then A else A.map (·.add (0 * 1)), fun W => ?_, fun w cs hr => ?_⟩
  · have hel : P.elem t = e := by simp [Program.elem, ht]
    have hu : P.underlying t = some (.slice (P.elem t)) := by rw [hel]; exact ht
    rw [run_slice_hm W t A n c hu .i64 .i64 (h : Int) (m : Int) (Int.natCast_nonneg _) (by omega) (by omega), hel]
    simp [sizeOf, typeInfo, hq, hqs, sliced, Result.andThen]
  · have := rd_mid (l := 0) hr hh hhm
    simpa using this

/-- cells that are slices of bytes, each in a row of its own, from base on, the rows rising -/
def OwnL (w : World) (base : Nat) (G : Nat → Nat) (cs : List Value) (ls : List (List UInt8)) : Prop :=
  cs.length = ls.length ∧ (∀ i j, i < j → j < ls.length → G i < G j) ∧ ∀ (j : Nat) (l : List UInt8), ls[j]? = some l →
    base ≤ G j ∧ ∃ c, cs[j]? = some (Value.slice (some ⟨G j, 0, none⟩) l.length c) ∧ w.ownsRow base 5 1 (.slice (some ⟨G j, 0, none⟩) l.length c) l.length (ub l)
theorem OwnL.nil_ (w : World) (base : Nat) : OwnL w base (fun _ => 0) [] [] := ⟨rfl, fun _ _ _ h => by simp at h, fun _ _ h => by simp at h⟩
theorem OwnL.move {w w' : World} {base : Nat} {G : Nat → Nat} {cs : List Value} {ls : List (List UInt8)} (h : OwnL w base G cs ls)
    (hm : ∀ (g : Nat) (c : Array Value), base ≤ g → w.heap[g]? = some (.cells c 5 (0, 0)) → w'.heap[g]? = some (.cells c 5 (0, 0))) : OwnL w' base G cs ls :=
  ⟨h.1, h.2.1, fun j l hl => by
    obtain ⟨h1, c, h2, h3⟩ := h.2.2 j l hl
    refine ⟨h1, c, h2, h3.1, ?_⟩
    rcases h3.2 with ⟨he, _⟩ | ⟨g, cap, cur, he, hg, hh, hr⟩
    · cases he
    · injection he with he1 he2 he3
      exact .inr ⟨g, cap, cur, by rw [he1, he3], hg, hm _ _ hg hh, hr⟩⟩
theorem OwnL.below {w w' : World} {base : Nat} {G : Nat → Nat} {cs : List Value} {ls : List (List UInt8)} (h : OwnL w base G cs ls) (hb : Below w.heap.size w w') : OwnL w' base G cs ls :=
  h.move fun g _ _ hg => (hb.block g (heap_lt hg)).trans hg
theorem OwnL.lt {w : World} {base : Nat} {G : Nat → Nat} {cs : List Value} {ls : List (List UInt8)} (h : OwnL w base G cs ls) {j : Nat} (hj : j < ls.length) : G j < w.heap.size := by
  obtain ⟨_, c, _, h3⟩ := h.2.2 j _ (List.getElem?_eq_getElem hj)
  exact (h3.lt (G j) rfl).2
theorem OwnL.snoc {w w' : World} {base g c : Nat} {G : Nat → Nat} {cs : List Value} {ls : List (List UInt8)} {l : List UInt8} (h0 : OwnL w base G cs ls) (h : OwnL w' base G cs ls) (hg : w.heap.size ≤ g) (hb : base ≤ w.heap.size)
    (ho : w'.ownsRow w.heap.size 5 1 (.slice (some ⟨g, 0, none⟩) l.length c) l.length (ub l)) :
    OwnL w' base (fun j => if j = ls.length then g else G j) (cs ++ [Value.slice (some ⟨g, 0, none⟩) l.length c]) (ls ++ [l]) := by
  refine ⟨by simp [h.1], fun i j hij hj => ?_, fun j l' hl => ?_⟩
  · simp at hj
    simp only
    rw [if_neg (by omega)]
    by_cases hjl : j = ls.length
    · rw [if_pos hjl]; exact Nat.lt_of_lt_of_le (h0.lt (by omega)) hg
    · rw [if_neg hjl]; exact h.2.1 i j hij (by omega)
  · rcases Nat.lt_or_ge j ls.length with hj | hj
    · rw [List.getElem?_append_left hj] at hl
      obtain ⟨h1, c', h2, h3⟩ := h.2.2 j l' hl
      simp only
      rw [if_neg (by omega)]
      exact ⟨h1, c', by rw [List.getElem?_append_left (by rw [h.1]; exact hj)]; exact h2, h3⟩
    · rw [List.getElem?_append_right hj] at hl
      have e0 : j - ls.length = 0 := by
        rcases Nat.eq_zero_or_pos (j - ls.length) with h0 | h0
        · exact h0
        · rw [List.getElem?_eq_none (by simp; omega)] at hl; cases hl
      have ej : j = ls.length := by omega
      rw [e0] at hl
      injection hl with hl
      subst hl
      simp only
      rw [if_pos ej]
      refine ⟨Nat.le_trans hb hg, c, by rw [List.getElem?_append_right (by rw [h.1]; exact hj), h.1, e0]; rfl, ?_⟩
      exact ⟨ho.1, ho.2.imp id (fun ⟨g, cap, cur, h1, h2, h3⟩ => ⟨g, cap, cur, h1, Nat.le_trans hb h2, h3⟩)⟩
theorem OwnL.pl {w : World} {base : Nat} {G : Nat → Nat} {cs : List Value} {ls : List (List UInt8)} (h : OwnL w base G cs ls) : PL w cs ls :=
  ⟨h.1, fun j l hl => by
    obtain ⟨_, c, h2, h3⟩ := h.2.2 j l hl
    obtain ⟨A, c', he, hc, hr⟩ := own_rd h3
    injection he with e1 e2 e3
    subst e1; subst e3
    exact ⟨_, c, h2, hc, hr⟩⟩
end Go.Proofs.Ythcajaadbdiggaa
