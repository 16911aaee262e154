/- Contract of the document's Rewrite of a log. -/
import Derived.Test.YthcajaadbdiggaaRef5Look
import Derived.Test.YthcajaadbdiggaaWalRew
import Derived.BigRegion
namespace Go.Proofs.Ythcajaadbdiggaa
set_option maxRecDepth 1000000
open Go.RowKit

/-- a row of texts that no block of a set holds -/
def TextsAt (w : World) (S : Nat → Prop) (A : Option Addr) (n : Nat) (l : List (List UInt8)) : Prop := Rd w A n (svs l) ∧ ∀ ad, A = some ad → ¬ S ad.block ∧ ad.block < w.heap.size
theorem TextsAt.only {w w' : World} {S : Nat → Prop} {A : Option Addr} {n : Nat} {l : List (List UInt8)} (h : TextsAt w S A n l) (ho : OnlyS S w w') : TextsAt w' S A n l :=
  ⟨h.1.at_block (fun ad e => ho.block _ (h.2 ad e).2 (h.2 ad e).1), fun ad e => ⟨(h.2 ad e).1, Nat.lt_of_lt_of_le (h.2 ad e).2 ho.size⟩⟩
theorem RWal.x_ne_r {w : World} {x r base : Nat} {D : DS} {W : WS} {v : Value} (h : RWal w x r base W v) (hD : RefAt w r D) : x ≠ r := fun e => by
  have h1 := h.cells
  rw [e, hD.cells] at h1
  injection h1 with h1
  injection h1 with _ h1 _
  exact absurd h1 (by decide)
theorem RWal.own_ne {w : World} {x r base : Nat} {D : DS} {W : WS} {v : Value} (h : RWal w x r base W v) (hD : RefAt w r D) : ∀ k, v.ownBlock = some k → k ≠ r ∧ k ≠ x :=
  fun k hk => ⟨fun e => h.ne hD.cells (by decide) (by rw [← e]; exact hk.symm), fun e => h.ne h.cells (by decide) (by rw [← e]; exact hk.symm)⟩

/-- the state of a rewrite -/
structure RSt (w : World) (x r base : Nat) (v : Value) (A : Option Addr) (n : Nat) (l : List (List UInt8)) (U : World) (D : DS) (W : WS) : Prop where
  log : RWal U x r base W v
  disk : RefAt U r D
  texts : TextsAt U (fun k => k = r ∨ k = x) A n l
  only : OnlyS (R3 r x v) w U
section
variable {w U U' : World} {x r base n : Nat} {v : Value} {A : Option Addr} {l : List (List UInt8)} {D D' : DS} {W W' : WS}
theorem RSt.below (h : RSt w x r base v A n l U D W) (hb : Below U.heap.size U U') : RSt w x r base v A n l U' D W :=
  ⟨h.log.below hb, h.disk.move (hb.block r (heap_lt h.disk.cells)), h.texts.only (OnlyS.of_below hb), h.only.trans (OnlyS.of_below hb)⟩
theorem RSt.ofDisk (h : RSt w x r base v A n l U D W) (hD : RefAt U' r D') (ho : OnlyD r r U U') : RSt w x r base v A n l U' D' W :=
  ⟨h.log.move (OnlyS.of_d (S := fun k => k = r) ho rfl rfl) (h.log.x_ne_r h.disk) (fun k hk => (h.log.own_ne h.disk k hk).1), hD, h.texts.only (OnlyS.of_d ho (.inl rfl) (.inl rfl)), h.only.trans (OnlyS.of_d ho (.inl rfl) (.inl rfl))⟩
theorem RSt.ofLog (h : RSt w x r base v A n l U D W) (hx : U'.heap[x]? = some (rwalCells r W' v)) (hrec : W'.recs = W.recs) (ho : OnlyD x x U U') : RSt w x r base v A n l U' D W' :=
  ⟨⟨hx, by rw [hrec]; exact own_at h.log.own (fun k hk e => ho.block k hk (h.log.own_ne h.disk k e).2 (h.log.own_ne h.disk k e).2)⟩, h.disk.move (ho.block r (heap_lt h.disk.cells) (h.log.x_ne_r h.disk).symm (h.log.x_ne_r h.disk).symm), h.texts.only (OnlyS.of_d ho (.inr rfl) (.inr rfl)), h.only.trans (OnlyS.of_d ho (.inr (.inl rfl)) (.inr (.inl rfl)))⟩
theorem RSt.post (h : RSt w x r base v A n l U D W) (E : Int) : RWPost w r x base v (D, W, E) (.returned (.int .i64 E)) U :=
  ⟨rfl, h.disk, ⟨v, h.log, fun k hk => .inl hk.symm⟩, h.only⟩
end
theorem rew5_fin {w Ua w6 : World} {x r base j q c6 : Nat} {v : Value} {A B6 : Option Addr} {l : List (List UInt8)} {D : DS} {W : WS} (S : RSt w x r base v A j l Ua D W) (hlen : l.length = j) (hq : w.heap.size ≤ q) (hbase : base ≤ w.heap.size) (hx : x < w.heap.size) (hr : r < w.heap.size)
    (o6 : w6.ownsRow q 9 1 (.slice B6 j c6) j (svs l)) (g6 : Ua.grownBy w6 (some q)) (F : Int) (z : Nat) :
    RWPost w r x base v (D, { W with f := F, gen := W.gen + 1, recs := l, bytes := z }, 0) (.returned (.int .i64 0)) (((w6.setCell ⟨x, 1, none⟩ (.int .i64 F)).setCell ⟨x, 2, none⟩ (.int .u64 ((W.gen : Int) + 1))).setCell ⟨x, 3, none⟩ (.slice B6 j c6)) := by
  subst hlen
  have x6 : w6.heap[x]? = some (rwalCells r W v) := (g6.block x (heap_lt S.log.cells) (by simp; omega)).trans S.log.cells
  have r6 : w6.heap[r]? = some (refCells D) := (g6.block r (heap_lt S.disk.cells) (by simp; omega)).trans S.disk.cells
  have hxr := S.log.x_ne_r S.disk
  have hlow : OnlyS (R3 r x v) w w6 := ⟨g6.os.trans S.only.os, g6.tape.trans S.only.tape, g6.output.trans S.only.output, Nat.le_trans S.only.size g6.size, fun k hk hs => (g6.block k (Nat.lt_of_lt_of_le hk S.only.size) (by simp; omega)).trans (S.only.block k hk hs)⟩
  have hset : ∀ (U : World) (i : Nat) (u : Value), OnlyS (R3 r x v) w U → OnlyS (R3 r x v) w (U.setCell ⟨x, i, none⟩ u) := fun U i u h => h.trans ⟨rfl, rfl, rfl, by simp [World.setCell], fun k hk hs => Below.heap_setCell _ _ _ _ (fun e => hs (.inr (.inl e)))⟩
  have hxq : ∀ k, (Value.slice B6 l.length c6).ownBlock = some k → k ≠ x := fun k hk => by have := (o6.lt k hk).1; omega
  refine ⟨rfl, ⟨?_, S.disk.ok⟩, ⟨.slice B6 l.length c6, ⟨?_, ?_⟩, fun k hk => .inr (by have := (o6.lt k hk).1; omega)⟩, hset _ _ _ (hset _ _ _ (hset _ _ _ hlow))⟩
  · rw [Below.heap_setCell _ _ _ _ (fun e => hxr e.symm), Below.heap_setCell _ _ _ _ (fun e => hxr e.symm), Below.heap_setCell _ _ _ _ (fun e => hxr e.symm)]; exact r6
  · rw [set_row (set_row (set_row x6 1 _) 2 _) 3 _]
    have : ((W.gen + 1 : Nat) : Int) = (W.gen : Int) + 1 := by omega
    simp [this]
  · refine own_lower (own_at o6 fun k hk e => ?_) (Nat.le_trans hbase hq)
    rw [Below.heap_setCell _ _ _ _ (hxq k e), Below.heap_setCell _ _ _ _ (hxq k e), Below.heap_setCell _ _ _ _ (hxq k e)]
theorem own_zero5 {w : World} {base n : Nat} {e : TypeId} {size : Nat} {v : Value} {xs : List Value} (h : w.ownsRow base e size v (0 + n) ([] ++ xs)) : w.ownsRow base e size v n xs := by
  rw [Nat.zero_add, List.nil_append] at h; exact h
theorem fails_bad {W : WS} {E : Int} (h : E ≠ 0) : W.fails E = { W with done := true } := by simp [WS.fails, h]
theorem fails_ok {W : WS} : W.fails 0 = W := by simp [WS.fails]

set_option maxHeartbeats 8000000 in
theorem rew5_calls (x r base : Nat) (D : DS) (W : WS) (v : Value) (A : Option Addr) (n cap : Nat) (l : List (List UInt8)) (w : World) (h : RWal w x r base W v) (hD : RefAt w r D) (hs : D.steps + 3 < 1099511627776)
    (hr : TextsAt w (fun k => k = r ∨ k = x) A n l) (hn : n ≤ 1048576) (ht : l.flatten.length ≤ 67108864) (hg : W.gen ≤ 4611686018427387904) (hbase : base ≤ w.heap.size) :
    Calls Try.prog 43 #[.pointer (some ⟨x, 0, none⟩), .slice A n cap] w fun e w' => RWPost w r x base v (wRew D W l) e w' := by
  have hmay := may5_calls x r D W v A n cap l w h.cells hD hr.1 (by omega)
  have hxw := heap_lt h.cells
  have hrw := heap_lt hD.cells
  obtain ⟨RR, hRR⟩ : ∃ RR, wRew D W l = RR := ⟨_, rfl⟩
  rw [hRR]
  unfold may5 at hmay
  have HRR := Lib.hid hRR
  clear hRR
  by_cases hv : wOver D W = true
  · rw [if_pos hv] at hmay
    have Hfin : ∀ m, Hid (RWPost w r x base v RR (.returned (.int .i64 6)) (w.drewN m)) := fun m => Lib.hid (by rw [← HRR.out, wRew_over hv]; exact ⟨rfl, hD.move rfl, ⟨v, h.below (below_drewN (Below.refl _ _) m), fun k hk => .inl hk.symm⟩, onlyS_drewN w m⟩)
    clear h hD hv
    go_enter Try.func43, Try.ntmps43
    go_wp2_with fail
    refine hmay.mono ?_
    rintro e w1 ⟨rfl, m, rfl⟩
    go_wp2_with fail
    go_ret
    exact (Hfin m).out
  rw [if_neg hv] at hmay
  by_cases hlong : tooLong l = true
  · rw [if_pos hlong] at hmay
    have Hfin : ∀ m, Hid (RWPost w r x base v RR (.returned (.int .i64 3)) (w.drewN m)) := fun m => Lib.hid (by rw [← HRR.out, wRew_long hv hlong]; exact ⟨rfl, hD.move rfl, ⟨v, h.below (below_drewN (Below.refl _ _) m), fun k hk => .inl hk.symm⟩, onlyS_drewN w m⟩)
    clear h hD hv hlong
    go_enter Try.func43, Try.ntmps43
    go_wp2_with fail
    refine hmay.mono ?_
    rintro e w1 ⟨rfl, m, rfl⟩
    go_wp2_with fail
    go_ret
    exact (Hfin m).out
  rw [if_neg hlong] at hmay
  by_cases hfull : 4611686018427387904 ≤ W.gen + 1
  · have Hfin : ∀ m, Hid (RWPost w r x base v RR (.returned (.int .i64 8)) (w.drewN m)) := fun m => Lib.hid (by rw [← HRR.out, wRew_full hv hlong hfull]; exact ⟨rfl, hD.move rfl, ⟨v, h.below (below_drewN (Below.refl _ _) m), fun k hk => .inl hk.symm⟩, onlyS_drewN w m⟩)
    have c2 := fun m => (rwal_cell (h.below (below_drewN (Below.refl w.heap.size w) m)).cells).2.2.1
    have hg1 : ((4611686018427387904 : Int) ≤ (W.gen : Int) + 1) = True := eq_true (by omega)
    have hg2 : (W.gen : Int) ≤ 4611686018427387904 := by omega
    clear h hD hv hlong hfull hg
    go_enter Try.func43, Try.ntmps43
    go_wp2_with fail
    refine hmay.mono ?_
    rintro e w1 ⟨rfl, m, rfl⟩
    have c2 := c2 m
    go_wp2_with fail
    go_ret
    exact (Hfin m).out
  have Hpre : Hid (RewPre D W l) := Lib.hid ⟨hv, hlong, hfull⟩
  have hg1 : ((4611686018427387904 : Int) ≤ (W.gen : Int) + 1) = False := eq_false (by omega)
  have hg2 : (W.gen : Int) ≤ 4611686018427387904 := by omega
  have hgl : W.gen + 1 < 4611686018427387904 := by omega
  rcases (show ((W.f == 0) = true ∧ otherF W.f = 1) ∨ ((W.f == 0) = false ∧ otherF W.f = 0) by
    by_cases h0 : W.f = 0
    · left; rw [h0]; exact ⟨rfl, rfl⟩
    · right; exact ⟨by rw [beq_eq_false_iff_ne]; exact h0, if_neg h0⟩) with ⟨hq, hoF⟩ | ⟨hq, hoF⟩
  all_goals
    go_enter Try.func43, Try.ntmps43
    go_wp2_with fail
    refine hmay.mono ?_
    rintro e w1 ⟨rfl, m, rfl⟩
    have hbm := below_drewN (Below.refl w.heap.size w) m
    have S1 : RSt w x r base v A n l (w.drewN m) D W := (RSt.mk h hD hr (OnlyS.refl _ _)).below hbm
    obtain ⟨c0, c1, c2, c3, c4, c5, cf⟩ := rwal_cell S1.log.cells
    clear hmay hbm
    have hcl := ref4clear_calls r D (otherF W.f) (w.drewN m) S1.disk (by omega)
    have hC1 := clearR_steps D (otherF W.f)
    obtain ⟨Q, hQ⟩ : ∃ Q, D.clearR (otherF W.f) = Q := ⟨_, rfl⟩
    rw [hQ] at hcl hC1
    have HQ := Lib.hid hQ
    rw [hoF] at hcl
    generalize w.drewN m = w1 at *
    clear hQ c3 c4 c5 cf hfull hv hlong hg h hD hr
    go_wp2_with fail
    refine hcl.mono ?_
    rintro e w2 ⟨rfl, hD2, ho2⟩
    have S2 := S1.ofDisk hD2 ho2
    have hfl := fails5_calls x r W v Q.2 w2 S2.log.cells
    clear hcl S1 hD2 ho2 c0 c1 c2 hq
    go_wp2_with fail
    refine hfl.mono ?_
    rintro e w3 ⟨rfl, hx3, ho3⟩
    clear hfl
    by_cases hE : Q.2 = 0
    rotate_left
    · have hne : (Q.2 != 0) = true := by rw [bne_iff_ne]; exact hE
      rw [fails_bad hE] at hx3
      have Hfin : Hid (RWPost w r x base v RR (.returned (.int .i64 Q.2)) w3) := Lib.hid (by rw [← HRR.out, wRew_clear Hpre.out HQ.out hE]; exact (S2.ofLog hx3 rfl ho3).post _)
      clear S2 hx3 ho3 hE
      generalize Q.2 = E at *
      go_wp2_with fail
      go_ret
      exact Hfin.out
    have HE := Lib.hid hE
    rw [hE] at hx3 ⊢
    rw [fails_ok] at hx3
    have S3 := S2.ofLog hx3 rfl ho3
    obtain ⟨G, hG⟩ : ∃ G, W.gen + 1 = G := ⟨_, rfl⟩
    have hGi : (G : Int) = (W.gen : Int) + 1 := by omega
    have hG62 : G < 4611686018427387904 := by omega
    have height := eight_calls G (by omega)
    rw [hGi] at height
    have kc := fun (W : World) (C : Array Value) (n c : Nat) => Lib.run_convert_bytes_const (P := Try.prog) W 35 5 C n c Try.underlying35 Try.underlying5
    have kc0 := kc w3
    have hba := (Below.refl w3.heap.size w3).alloc (Nat.le_refl _) (.cells #[.int .u8 71] 5 (1, 2))
    have hra : Rd (w3.alloc (.cells #[.int .u8 71] 5 (1, 2))) (some ⟨w3.heap.size, 0, none⟩) 1 (ub [71]) := marked_rd w3 71
    have S4 := S3.below hba
    have c2 := (rwal_cell S4.log.cells).2.2.1
    have HG := Lib.hid hG
    have HG62 := Lib.hid hG62
    clear hE S2 hx3 ho3 hG hGi hG62 S3 hba hgl
    go_wp2_with fail
    clear kc0
    generalize w3.alloc (.cells #[.int .u8 71] 5 (1, 2)) = W0 at *
    refine (height W0).mono ?_
    rintro e w5 ⟨⟨u, rfl, hown5⟩, hb5⟩
    obtain ⟨B1, c1, rfl, _, hrd1⟩ := own_rd hown5
    have hra1 := hra.below hb5
    have S5 := S4.below hb5
    clear hown5 hra hb5 height S4 c2
    go_wp2_with (at_builtin; refine wpList_app_full rfl _ _ _ rfl 5 (.int .u8 0) 1 Try.underlying35 info_u8 rfl (by decide) rfl hra1 rfl hrd1 (ub_one _) ?_ ?_)
    case _ => decide
    case _ =>
      intro B2 c2 w6 hc6 hrd6 hb6 _
      have hrd6' : Rd w6 B2 9 (ub (71 :: be 8 G)) := by rw [← ub_append] at hrd6; exact hrd6
      have S6 := S5.below hb6
      clear hrd6 hb6 hra1 hrd1 S5
      go_wp2_with fail
      refine (ref3put_calls none B2 0 0 9 c2 [] (71 :: be 8 G) w6 (Rd.none_ _ _) hrd6' hc6 (by decide) (by decide)).mono ?_
      rintro e w7 ⟨⟨u, k, rfl, hk, hown7⟩, hb7⟩
      have Hk0 : Hid (k = (body G (l.take 0)).length) := Lib.hid (by rw [hk, bodyG_length]; simp)
      have hown0 : w7.ownsRow 0 5 1 u k (ub (body G (l.take 0))) := by
        have e1 : [] ++ enc (71 :: be 8 G) = body G (l.take 0) := by simp [body]
        rw [e1] at hown7
        exact own_lower hown7 (Nat.zero_le _)
      have S7 := S6.below hb7
      clear hk hown7 hb7 hrd6' S6
      have Hflat := Lib.hid ht
      clear ht kc hg1 hg2
      go_wp2_with fail
      go_loopw [7, 9] (fun bs i wr => ∃ j q : Nat, j ≤ n ∧ i = .int .i64 j ∧ Hid (q = (body G (l.take j)).length) ∧ wr.ownsRow 0 5 1 bs q (ub (body G (l.take j))) ∧ RSt w x r base v A n l wr Q.1 W) (fun _ i _ => n - (intOf i).toNat)
      case atStart => exact ⟨0, k, Nat.zero_le _, rfl, Hk0, hown0, S7⟩
      case round =>
        clear hown0 Hk0 S7
        obtain ⟨j, q, hj, rfl, Hq, hownb, S8⟩ := hrel
        have hlen : l.length = n := by have := S8.texts.1.1; rwa [svs, List.length_map] at this
        have hqb : q ≤ 134217728 := by have h1 := Hq.out; have h2 := bodyG_length G (l.take j); have h3 := flat_take_le l j; have h4 := Hflat.out; rw [List.length_take] at h2; omega
        have Hlen := Lib.hid hlen
        obtain ⟨B, c, rfl, hcb, hrdb⟩ := own_rd hownb
        by_cases hlt : j < n
        · obtain ⟨ad, rec, rfl, hl, hcell⟩ := str_at S8.texts.1 hlt
          change wr.cell? (ad.add j) = some (.string (txt rec)) at hcell
          have hj0 : (0 : Int) ≤ j := by omega
          have hj1 : (j : Int) < n := by omega
          have hrl : rec.length ≤ 1048575 := by
            have h0 := Hpre.out.short
            have h5 := fun hh => h0 (List.any_eq_true.2 ⟨rec, List.mem_of_getElem? hl, hh⟩)
            simpa using h5
          have Hnx := Lib.hid (body_step (gen := G) hl)
          have hcat := txt_cons 82 rec
          have hnb : ¬ 9223372036854775807 < 1 + (txt rec).size := by rw [txt_size]; omega
          obtain ⟨c2', W2, hcv, hcc, hrd2, hb2⟩ := str_bytes wr (82 :: rec)
          have hrdb2 := hrdb.below hb2
          have S9 := S8.below hb2
          clear hl hlen hownb hrdb S8 hb2
          go_wp2_with fail
          refine (ref3put_calls B (some ⟨wr.heap.size, 0, none⟩) q c (rec.length + 1) c2' (body G (l.take j)) (82 :: rec) W2 hrdb2 hrd2 hcc (by omega) (by omega)).mono ?_
          rintro e w8 ⟨⟨u, k8, rfl, hk8, hown8⟩, hb8⟩
          have S10 := S9.below hb8
          have Hk8 : Hid (k8 = (body G (l.take (j + 1))).length) := Lib.hid (by rw [hk8, ← Hnx.out, List.length_append, enc_length, ← Hq.out]; simp; omega)
          have hown9 : w8.ownsRow 0 5 1 u k8 (ub (body G (l.take (j + 1)))) := by
            rw [Hnx.out] at hown8
            exact own_lower hown8 (Nat.zero_le _)
          clear hk8 hown8 hb8 S9 hcv hcc hrd2 hrdb2 hcat hnb hcell
          go_wp2_with fail
          go_roundw
          case rel => exact ⟨j + 1, k8, by omega, by go_num, Hk8, hown9, S10⟩
          case measure => simp [intOf]; omega
        · obtain rfl : j = n := by omega
          have hbody : body G (l.take j) = body G l := by rw [List.take_of_length_le (by omega)]
          rw [hbody] at hrdb Hq
          have hba := (Below.refl wr.heap.size wr).alloc (Nat.le_refl _) (.cells #[.int .u8 69] 5 (1, 2))
          have hrdA := hrdb.below hba
          have hra : Rd (wr.alloc (.cells #[.int .u8 69] 5 (1, 2))) (some ⟨wr.heap.size, 0, none⟩) 1 (ub [69]) := marked_rd wr 69
          have S9 := S8.below hba
          have kcr := Lib.run_convert_bytes_const (P := Try.prog) wr 35 5
          have kcr := fun (C : Array Value) (n c : Nat) => kcr C n c Try.underlying35 Try.underlying5
          have hfo : body G l ++ enc [69] = fileOf G l := rfl
          clear hownb hrdb S8 hba hbody hlen
          go_wp2_with fail
          refine (ref3put_calls B _ q c 1 1 (body G l) [69] _ hrdA hra (by decide) (by omega) (by decide)).mono ?_
          rintro e w8 ⟨⟨u, k8, rfl, hk8, hown8⟩, hb8⟩
          have S10 := S9.below hb8
          rw [hfo] at hown8
          have hk8f : k8 = (fileOf G l).length := by rw [← hfo, List.length_append, enc_length, ← Hq.out, hk8]; simp
          have hk8b : k8 ≤ 134217800 := by omega
          obtain ⟨B8, c8, rfl, hc8, hrd8⟩ := own_rd hown8
          have hbl : ∀ ad, B8 = some ad → ad.block < w8.drew.heap.size := fun ad e => by subst e; exact (hown8.lt _ rfl).2
          have hBne : ∀ ad, B8 = some ad → ad.block ≠ r ∧ ad.block ≠ x := fun ad e => by
            subst e
            exact ⟨fun e => own_ne_blk hown8 S10.disk.cells (by decide) (by rw [← e]; rfl), fun e => own_ne_blk hown8 S10.log.cells (by decide) (by rw [← e]; rfl)⟩
          have hrdd : Rd w8.drew B8 k8 (ub (fileOf G l)) := hrd8.below (Below.refl _ _).drew
          have S11 : RSt w x r base v A j l w8.drew Q.1 W := S10.below (Below.refl _ _).drew
          have Hs1 : Hid (∀ U : World, Rd U B8 k8 (ub (fileOf G l)) → (convert 35 9 (.slice B8 k8 c8)).run Try.prog U = .ok (.string (txt (fileOf G l))) U) := Lib.hid (fun U hU => run_str (P := Try.prog) (dst := 9) Try.underlying35 Try.underlying5 Try.underlying9 hU c8)
          have Hk8 := Lib.hid hk8f
          have hC2 := appR_steps Q.1 (otherF W.f) (fileOf G l)
          have hap := fun (U : World) (hU : RefAt U r Q.1) => ref4app_calls r Q.1 (otherF W.f) (fileOf G l) U hU (by omega) (by omega)
          obtain ⟨Z, hZ⟩ : ∃ Z, Q.1.appR (otherF W.f) (fileOf G l) = Z := ⟨_, rfl⟩
          rw [hZ] at hap hC2
          rw [hoF] at hap
          have HZ := Lib.hid hZ
          clear hk8 hown8 hb8 S9 kcr hrdA hra hfo Hq hqb hc8 hrd8 S10 hk8f hk8b hZ
          go_wp2_with fail
          go_region_held3 (fun U => U.cell? ⟨x, 0, none⟩ = some (.pointer (some ⟨r, 0, none⟩)) ∧ (convert 35 9 (.slice B8 k8 c8)).run Try.prog U = .ok (.string (txt (fileOf G l))) U)
            (exact ⟨by rw [cell_row S11.log.cells]; rfl, Hs1.out _ hrdd⟩)
            (first
              | (go_at_call 36
                 refine (hap _ S11.disk).mono ?_
                 rintro e w' ⟨rfl, hD', ho'⟩
                 replace hrdd := hrdd.at_block (fun ad e => ho'.block _ (hbl ad e) (hBne ad e).1 (hBne ad e).1)
                 replace hbl := fun ad e => Nat.lt_of_lt_of_le (hbl ad e) ho'.size
                 replace S11 := S11.ofDisk hD' ho')
              | (go_at_call 67
                 refine (fails5_calls x r W v _ _ S11.log.cells).mono ?_
                 rintro e w' ⟨rfl, hx', ho'⟩
                 replace hrdd := hrdd.at_block (fun ad e => ho'.block _ (hbl ad e) (hBne ad e).2 (hBne ad e).2)
                 replace hbl := fun ad e => Nat.lt_of_lt_of_le (hbl ad e) ho'.size
                 replace S11 := S11.ofLog hx' rfl ho'))
          clear hbl hBne hrdd Hs1 hap
          by_cases hE2 : Z.2 = 0
          rotate_left
          · have hne : (Z.2 != 0) = true := by rw [bne_iff_ne]; exact hE2
            rw [fails_bad hE2] at S11
            have Hfin : Hid (RWPost w r x base v RR (.returned (.int .i64 Z.2)) w') := Lib.hid (by rw [← HRR.out, wRew_app Hpre.out HQ.out HE.out (by rw [HG.out]; exact HZ.out) hE2]; exact S11.post _)
            clear S11 hE2
            generalize Z.2 = E at *
            go_wp2_with fail
            go_ret
            exact Hfin.out
          have HE2 := Lib.hid hE2
          rw [hE2] at S11 ⊢
          rw [fails_ok] at S11
          have c0 := (rwal_cell S11.log.cells).1
          have hsy := ref4sync_calls r Z.1 (otherF W.f) w' S11.disk (by omega)
          obtain ⟨Y, hY⟩ : ∃ Y, Z.1.syncR (otherF W.f) = Y := ⟨_, rfl⟩
          rw [hY] at hsy
          rw [hoF] at hsy
          have HY := Lib.hid hY
          clear hE2 hY
          go_wp2_with fail
          refine hsy.mono ?_
          rintro e w20 ⟨rfl, hD20, ho20⟩
          have S20 := S11.ofDisk hD20 ho20
          have hfl := fails5_calls x r W v Y.2 w20 S20.log.cells
          clear hsy S11 hD20 ho20 c0
          go_wp2_with fail
          refine hfl.mono ?_
          rintro e w21 ⟨rfl, hx21, ho21⟩
          clear hfl
          by_cases hE3 : Y.2 = 0
          rotate_left
          · have hne : (Y.2 != 0) = true := by rw [bne_iff_ne]; exact hE3
            rw [fails_bad hE3] at hx21
            have Hfin : Hid (RWPost w r x base v RR (.returned (.int .i64 Y.2)) w21) := Lib.hid (by rw [← HRR.out, wRew_sync Hpre.out HQ.out HE.out (by rw [HG.out]; exact HZ.out) HE2.out HY.out hE3]; exact (S20.ofLog hx21 rfl ho21).post _)
            clear S20 hx21 ho21 hE3
            generalize Y.2 = E at *
            go_wp2_with fail
            go_ret
            exact Hfin.out
          have HE3 := Lib.hid hE3
          rw [hE3] at hx21 ⊢
          rw [fails_ok] at hx21
          have S21 := S20.ofLog hx21 rfl ho21
          clear S20 hx21 ho21 hE3
          have hRRok := wRew_ok Hpre.out HQ.out HE.out (by rw [HG.out]; exact HZ.out) HE2.out HY.out HE3.out
          rw [HRR.out] at hRRok
          have HRok := Lib.hid hRRok
          obtain ⟨c0, c1, c2, c3, c4, c5, cf⟩ := rwal_cell S21.log.cells
          have hone : ∀ u ∈ svs l, u.oneCell' = true := fun u hu => by
            rw [svs, List.mem_map] at hu
            obtain ⟨y, -, rfl⟩ := hu
            rfl
          obtain ⟨i0, hi0, hzi0, hzi1, hzi2⟩ := info_parts info_string
          have hba := ((Below.refl w21.heap.size w21).alloc (Nat.le_refl _) (.cells #[] 9)).drew
          have HoE : Hid ((w21.alloc (.cells #[] 9)).drew.ownsRow w21.heap.size 9 1 (.slice (some ⟨w21.heap.size, 0, none⟩) 0 0) 0 []) := Lib.hid ⟨rfl, .inr ⟨_, 0, #[], rfl, Nat.le_refl _, alloc_new w21 _ _ rfl, Nat.le_refl _, by decide, rfl, rfl⟩⟩
          have S22 := S21.below hba
          have HS := Lib.hid S22
          have Hba := Lib.hid hba
          have hgI : ((W.gen + 1 : Nat) : Int) = (W.gen : Int) + 1 := by omega
          have HgI := Lib.hid hgI
          have hwr : IntKind.u64.wrap ((W.gen : Int) + 1) = (W.gen : Int) + 1 := by rw [IntKind.wrap_u64]; have := HG.out; have := HG62.out; omega
          have cE2 : (w21.alloc (.cells #[] 9)).cell? ⟨x, 2, none⟩ = some (.int .u64 (W.gen : Int)) := (rwal_cell HS.out.log.cells).2.2.1
          have hlen : l.length = j := by have := S21.texts.1.1; rwa [svs, List.length_map] at this
          have Hlen := Lib.hid hlen
          have Hsz : Hid (w.heap.size ≤ w21.heap.size) := Lib.hid S21.only.size
          clear S22 hba hRRok hlen S21 hgI hC1 hC2
          go_wp2_with fail
          go_region_law (
            refine step_append_any _ rfl (.tmp 108) (.tmp 109) 59 rfl w21.heap.size 9 i0 (.string ⟨#[]⟩) 1 16 Try.underlying59 hi0 hzi0 hzi1 hzi2 rfl (by decide) (.slice (some ⟨w21.heap.size, 0, none⟩) 0 0) 0 [] (by simp [Act.eval, Act.put]) HoE.out A j cap (svs l) (by simp [Act.eval, Act.put]) HS.out.texts.1 rfl hone (by unfold maxLen; omega) (by omega) Hba.out.size ?_
            intro v6 w6 hown6 hg6 _
            have hown6 := own_zero5 hown6
            have x6 := (hg6.block x (heap_lt HS.out.log.cells) (own_ne_blk HoE.out HS.out.log.cells (by decide))).trans HS.out.log.cells
            have c61 : w6.cell? ⟨x, 1, none⟩ = some (.int .i64 W.f) := (rwal_cell x6).2.1
            have c62 : w6.cell? ⟨x, 2, none⟩ = some (.int .u64 (W.gen : Int)) := (rwal_cell x6).2.2.1
            have c63 : w6.cell? ⟨x, 3, none⟩ = some v := (rwal_cell x6).2.2.2.1
            have f6 := (rwal_cell x6).2.2.2.2.2.2
            have f7 := fun F : Int => free_row (set_row x6 1 (.int .i64 F))
            have f8 := fun F : Int => free_row (set_row (set_row x6 1 (.int .i64 F)) 2 (.int .u64 ((W.gen : Int) + 1)))
            obtain ⟨B6, cc6, rfl, _, _⟩ := own_rd hown6
            have H6 := Lib.hid (And.intro hown6 (And.intro hg6 x6))
            clear hown6 hg6)
          all_goals
            obtain ⟨o6, g6, -⟩ := H6.out
            have hfin := rew5_fin HS.out Hlen.out Hsz.out hbase hxw hrw o6 g6 (otherF W.f) (fileOf (W.gen + 1) l).length
            rw [← HRok.out, hoF] at hfin
            have Hfin := Lib.hid hfin
            clear H6 o6 g6 hfin HS c0 c1 c2 c3 c4 c5 cf c61 c62 c63 f6 f7 f8
            go_wp2_with fail
            go_ret
            exact Hfin.out
end Go.Proofs.Ythcajaadbdiggaa
