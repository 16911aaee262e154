/- Contract of the document's Append to a log. -/
import Derived.Test.YthcajaadbdiggaaRef5
import Derived.Lib.ConvBytes
namespace Go.Proofs.Ythcajaadbdiggaa
set_option maxRecDepth 1000000
open Go.RowKit

/-- a text, to bytes -/
theorem str_bytes (W : World) (xs : List UInt8) : ∃ (c : Nat) (W' : World), (convert 9 35 (.string (txt xs))).run Try.prog W = .ok (.slice (some ⟨W.heap.size, 0, none⟩) xs.length c) W' ∧ xs.length ≤ c ∧ Rd W' (some ⟨W.heap.size, 0, none⟩) xs.length (ub xs) ∧ Below W.heap.size W W' := by
  refine ⟨grownCap W (txt xs).size 0 5, Lib.bytesWorld W 5 (txt xs), ?_, ?_, ⟨ub_length xs, fun _ => ⟨_, rfl, fun j u hu => ?_⟩⟩, ⟨rfl, rfl, rfl, by rw [Lib.bytesWorld_size]; omega, fun k hk => Lib.bytesWorld_at_old W _ _ k hk⟩⟩
  · have h := Lib.run_convert_string_bytes (P := Try.prog) W 9 35 5 (txt xs) Try.underlying9 Try.underlying35 Try.underlying5
    rw [h, txt_size]
  · have := grownCap_ge W (txt xs).size 0 5
    rwa [txt_size] at this
  · have hj : j < xs.length := by
      have := (List.getElem?_eq_some_iff.1 hu).1
      rwa [ub_length] at this
    rw [add_at0, Nat.zero_add, Lib.bytesWorld_cell W _ _ j (by rw [txt_size]; exact hj), ← hu]
    simp [ub, txt, hj, List.getD]
theorem txt_cons (x : UInt8) (r : List UInt8) : (⟨#[x]⟩ : ByteArray) ++ txt r = txt (x :: r) := by
  have := txt_app [x] r
  rw [show ([x] ++ r : List UInt8) = x :: r from rfl] at this
  rw [← this]; rfl

set_option maxHeartbeats 4000000 in
theorem app5_calls (x r base : Nat) (D : DS) (W : WS) (v : Value) (rec : List UInt8) (w : World) (h : RWal w x r base W v) (hD : RefAt w r D) (hs : D.steps < 1099511627776) (hrec : rec.length ≤ 1073741824) (hb2 : W.recs.length ≤ 1048576) (hbase : base ≤ w.heap.size) :
    Calls Try.prog 38 #[.pointer (some ⟨x, 0, none⟩), .string (txt rec)] w fun e w' => RWPost w r x base v (wApp D W rec) e w' := by
  have hb0 := (Below.refl w.heap.size w).alloc (Nat.le_refl _) (.cells #[.string (txt rec)] 9)
  have hr0 : Rd (w.alloc (.cells #[.string (txt rec)] 9)) (some ⟨w.heap.size, 0, none⟩) 1 (svs [rec]) := rd_one w (.string (txt rec)) 9
  have h0 := h.below hb0
  have hD0 : RefAt (w.alloc (.cells #[.string (txt rec)] 9)) r D := hD.move (hb0.block r (heap_lt hD.cells))
  have hmay := may5_calls x r D W v (some ⟨w.heap.size, 0, none⟩) 1 1 [rec] _ h0.cells hD0 hr0 (by decide)
  have hxr : x ≠ r := fun e => by
    have h1 := h.cells
    rw [e, hD.cells] at h1
    injection h1 with h1
    injection h1 with _ h1 _
    exact absurd h1 (by decide)
  have hown : ∀ k, v.ownBlock = some k → k ≠ r ∧ k ≠ x := fun k hk => ⟨fun e => h.ne hD.cells (by decide) (by rw [← e]; exact hk.symm), fun e => h.ne h.cells (by decide) (by rw [← e]; exact hk.symm)⟩
  have hlong : tooLong [rec] = decide (1048575 < rec.length) := by simp [tooLong]
  have HR6 : Hid (wOver D W = true → wApp D W rec = (D, W, 6)) := Lib.hid (fun h => by unfold wApp; rw [if_pos h])
  have HR3 : Hid (¬ wOver D W = true → 1048575 < rec.length → wApp D W rec = (D, W, 3)) := Lib.hid (fun h h2 => by unfold wApp; rw [if_neg h, if_pos h2])
  have HRb : Hid (¬ wOver D W = true → ¬ 1048575 < rec.length → (D.appR W.f (recR rec)).2 ≠ 0 → wApp D W rec = ((D.appR W.f (recR rec)).1, { W with done := true }, (D.appR W.f (recR rec)).2)) := Lib.hid (fun h h2 h3 => by unfold wApp; rw [if_neg h, if_neg h2, if_pos h3])
  have HR0 : Hid (¬ wOver D W = true → ¬ 1048575 < rec.length → (D.appR W.f (recR rec)).2 = 0 → wApp D W rec = ((D.appR W.f (recR rec)).1, { W with recs := W.recs ++ [rec], bytes := W.bytes + (rec.length + 9) }, 0)) := Lib.hid (fun h h2 h3 => by unfold wApp; rw [if_neg h, if_neg h2, if_neg (by rw [h3]; simp)])
  unfold may5 at hmay
  rw [hlong] at hmay
  generalize wApp D W rec = RR at *
  clear h hD hlong hr0
  by_cases hv : wOver D W = true
  · rw [if_pos hv] at hmay
    obtain rfl := HR6.out hv
    have Hfin : ∀ m, Hid (RWPost w r x base v (D, W, 6) (.returned (.int .i64 6)) ((w.alloc (.cells #[.string (txt rec)] 9)).drewN m)) := fun m => Lib.hid ⟨rfl, hD0.move rfl, ⟨v, h0.below (below_drewN (Below.refl _ _) m), fun k hk => .inl hk.symm⟩, OnlyS.of_below (below_drewN hb0 m)⟩
    clear h0 hD0 hv hb0
    go_enter Try.func38, Try.ntmps38
    go_wp2_with fail
    refine hmay.mono ?_
    rintro e w1 ⟨rfl, m, rfl⟩
    go_wp2_with fail
    go_ret
    exact (Hfin m).out
  · rw [if_neg hv] at hmay
    by_cases hl : 1048575 < rec.length
    · rw [decide_eq_true hl, if_pos rfl] at hmay
      obtain rfl := HR3.out hv hl
      have Hfin : ∀ m, Hid (RWPost w r x base v (D, W, 3) (.returned (.int .i64 3)) ((w.alloc (.cells #[.string (txt rec)] 9)).drewN m)) := fun m => Lib.hid ⟨rfl, hD0.move rfl, ⟨v, h0.below (below_drewN (Below.refl _ _) m), fun k hk => .inl hk.symm⟩, OnlyS.of_below (below_drewN hb0 m)⟩
      clear h0 hD0 hv hb0 hl
      go_enter Try.func38, Try.ntmps38
      go_wp2_with fail
      refine hmay.mono ?_
      rintro e w1 ⟨rfl, m, rfl⟩
      go_wp2_with fail
      go_ret
      exact (Hfin m).out
    · rw [decide_eq_false hl, if_neg (by simp)] at hmay
      replace HRb := Lib.hid (HRb.out hv hl)
      replace HR0 := Lib.hid (HR0.out hv hl)
      have hcat := txt_cons 82 rec
      have hnb : ¬ 9223372036854775807 < 1 + (txt rec).size := by rw [txt_size]; omega
      go_enter Try.func38, Try.ntmps38
      go_wp2_with fail
      refine hmay.mono ?_
      rintro e w1 ⟨rfl, m, rfl⟩
      have hb1 := below_drewN hb0 m
      have h1 := h0.below (below_drewN (Below.refl _ _) m)
      have hD1 : RefAt ((w.alloc (.cells #[.string (txt rec)] 9)).drewN m) r D := hD0.move rfl
      clear h0 hD0 hb0 hmay
      generalize (w.alloc (.cells #[.string (txt rec)] 9)).drewN m = W1 at *
      obtain ⟨c2, W2, hcv, hcc, hrd2, hb2'⟩ := str_bytes W1 (82 :: rec)
      go_wp2_with fail
      refine (ref3put_calls none (some ⟨W1.heap.size, 0, none⟩) 0 0 (rec.length + 1) c2 [] (82 :: rec) W2 (Rd.none_ _ _) hrd2 hcc (by decide) (by omega)).mono ?_
      rintro e W3 ⟨⟨u, k, rfl, hk, hown3⟩, hb3⟩
      rw [List.nil_append] at hown3
      change W3.ownsRow W2.heap.size 5 1 u k (ub (recR rec)) at hown3
      have hk2 : k = rec.length + 9 := by omega
      subst hk2
      clear hk
      obtain ⟨B, c, rfl, hc, hrd⟩ := own_rd hown3
      have h3 := (h1.below hb2').below hb3
      have hb23 := below_then hb2' hb3
      have hD3 : RefAt W3 r D := hD1.move (hb23.block r (heap_lt hD1.cells))
      have hb4 := below_then hb1 hb23
      have hb5 := hb4.drew
      have hx3 : RWal W3.drew x r base W v := h3.below (Below.refl _ _).drew
      have hDd : RefAt W3.drew r D := hD3.move rfl
      have ho3 := OnlyS.of_below (S := R3 r x v) hb5
      have hrdd : Rd W3.drew B (rec.length + 9) (ub (recR rec)) := hrd.below (Below.refl _ _).drew
      have hs1 : ∀ U : World, Rd U B (rec.length + 9) (ub (recR rec)) → (convert 35 9 (.slice B (rec.length + 9) c)).run Try.prog U = .ok (.string (txt (recR rec))) U := fun U hU => run_str (P := Try.prog) (dst := 9) Try.underlying35 Try.underlying5 Try.underlying9 hU c
      have Hs1 := Lib.hid hs1
      have hbl : ∀ ad, B = some ad → ad.block < W3.drew.heap.size := fun ad e => by subst e; exact (hown3.lt _ rfl).2
      have hBne : ∀ ad, B = some ad → ad.block ≠ r ∧ ad.block ≠ x := fun ad e => by
        subst e
        exact ⟨fun e => own_ne_blk hown3 hD3.cells (by decide) (by rw [← e]; rfl), fun e => own_ne_blk hown3 h3.cells (by decide) (by rw [← e]; rfl)⟩
      clear hcv hcc hrd2 hb2' hown3 hb3 h3 h1 hD1 hD3 hrd hb23 hb4 hcat hnb hs1
      go_wp2_with fail
      go_region_held3 (fun U => U.cell? ⟨x, 0, none⟩ = some (.pointer (some ⟨r, 0, none⟩)) ∧ U.cell? ⟨x, 1, none⟩ = some (.int .i64 W.f) ∧ (convert 35 9 (.slice B (rec.length + 9) c)).run Try.prog U = .ok (.string (txt (recR rec))) U)
        (exact ⟨by rw [cell_row hx3.cells]; rfl, by rw [cell_row hx3.cells]; rfl, Hs1.out _ hrdd⟩)
        (first
          | (go_at_call 36
             refine (ref4app_calls r D W.f (recR rec) _ hDd hs (by rw [recR_length]; omega)).mono ?_
             rintro e w' ⟨rfl, hD', ho'⟩
             replace hrdd := hrdd.at_block (fun ad e => ho'.block _ (hbl ad e) (hBne ad e).1 (hBne ad e).1)
             replace hbl := fun ad e => Nat.lt_of_lt_of_le (hbl ad e) ho'.size
             replace hx3 := hx3.move (OnlyS.of_d (S := fun k => k = r) ho' rfl rfl) hxr (fun k hk => (hown k hk).1)
             replace ho3 := ho3.trans (OnlyS.of_d ho' (.inl rfl) (.inl rfl))
             clear hDd
             have hDd := hD')
          | (go_at_call 67
             refine (fails5_calls x r W v _ _ hx3.cells).mono ?_
             rintro e w' ⟨rfl, hx', ho'⟩
             replace hDd := hDd.move (ho'.block r (heap_lt hDd.cells) hxr.symm hxr.symm)
             replace hrdd := hrdd.at_block (fun ad e => ho'.block _ (hbl ad e) (hBne ad e).2 (hBne ad e).2)
             replace hbl := fun ad e => Nat.lt_of_lt_of_le (hbl ad e) ho'.size
             replace ho3 := ho3.trans (OnlyS.of_d ho' (.inr (.inl rfl)) (.inr (.inl rfl)))
             have hx4 : RWal w' x r base (W.fails (D.appR W.f (recR rec)).2) v := ⟨hx', own_at hx3.own (fun k hk e => ho'.block k hk (hown k e).2 (hown k e).2)⟩
             clear hx3
             have hx3 := hx4))
      all_goals
        clear hBne hbl hrdd Hs1
        generalize D.appR W.f (recR rec) = Q at *
        obtain ⟨D9, E9⟩ := Q
        simp only at hx3 hDd
        simp only at HR0 HRb
        by_cases hE : E9 = 0
        · subst hE
          have hW : W.fails 0 = W := by simp [WS.fails]
          rw [hW] at hx3
          obtain rfl := HR0.out rfl
          have hba := (Below.refl w'.heap.size w').alloc (Nat.le_refl _) (.cells #[.string (txt rec)] 9)
          have hxa := hx3.below hba
          have hDa : RefAt (w'.alloc (.cells #[.string (txt rec)] 9)) r D9 := hDd.move (hba.block r (heap_lt hDd.cells))
          have hra : Rd (w'.alloc (.cells #[.string (txt rec)] 9)) (some ⟨w'.heap.size, 0, none⟩) 1 [.string (txt rec)] := rd_one w' _ 9
          have hoa := ho3.trans (OnlyS.of_below hba)
          have c3 := (rwal_cell hx3.cells).2.2.2.1
          have hsz : w.heap.size ≤ w'.heap.size + 1 := by have := ho3.size; omega
          have hoA := hxa.own
          clear hx3 hDd ho3 hba
          go_wp2_with (at_builtin; refine wpList_app rfl _ _ _ rfl 9 (.string ⟨#[]⟩) 16 Try.underlying59 info_string rfl (by decide) base rfl hoA rfl hra (one_one rfl) ?_ ?_ ?_)
          case _ => omega
          case _ => exact Nat.le_trans hbase hsz
          case _ =>
            intro v6 w6 hown6 hg6 hob6
            obtain ⟨A6, c6, e6, -, -⟩ := own_rd hown6
            subst e6
            obtain ⟨v6, hv6⟩ : ∃ v6, v6 = Value.slice A6 (W.recs.length + 1) c6 := ⟨_, rfl⟩
            rw [← hv6] at hown6 hob6
            have hx6 : w6.heap[x]? = some (rwalCells r W v) := (hg6.block x (heap_lt hxa.cells) (own_ne_blk hoA hxa.cells (by decide))).trans hxa.cells
            have hD6 : RefAt w6 r D9 := hDa.move (hg6.block r (heap_lt hDa.cells) (own_ne_blk hoA hDa.cells (by decide)))
            have ho6 : OnlyS (R3 r x v) w w6 := hoa.trans ⟨hg6.os, hg6.tape, hg6.output, hg6.size, fun k hk hs => hg6.block k hk (fun e => hs (.inr (.inr e)))⟩
            have hx7 := set_row hx6 3 v6
            have hf6 := free_row hx6 3
            have c36 := (rwal_cell hx6).2.2.2.1
            have hne6 : some x ≠ v6.ownBlock := own_ne_blk hown6 hx6 (by decide)
            have hown7 := own_at (w' := w6.setCell ⟨x, 3, none⟩ v6) hown6 (fun k hk e => Below.heap_setCell _ _ _ _ (fun ek => hne6 (by rw [e, ek])))
            have Hfin : Hid (RWPost w r x base v (D9, { W with recs := W.recs ++ [rec], bytes := W.bytes + (rec.length + 9) }, 0) (.returned (.int .i64 0)) (w6.setCell ⟨x, 3, none⟩ v6)) := Lib.hid ⟨rfl, hD6.move (Below.heap_setCell _ _ _ _ (fun e => hxr e.symm)), ⟨v6, ⟨by rw [hx7]; rfl, by
              show World.ownsRow _ _ _ _ _ (W.recs ++ [rec]).length (svs (W.recs ++ [rec]))
              rw [List.length_append, svs, List.map_append]; exact hown7⟩, fun k hk => by
                rcases hob6 with e | e
                · rw [e] at hk; exact .inl hk.symm
                · rw [e] at hk; injection hk with hk; subst hk; exact .inr hsz⟩,
              ho6.trans ⟨rfl, rfl, rfl, by simp [World.setCell], fun k hk hs => Below.heap_setCell _ _ _ _ (fun e => hs (.inr (.inl e)))⟩⟩
            subst hv6
            clear hxa hDa hra hoa c3 hoA hown6 hg6 hob6 hD6 ho6 hx7 hne6 hown7
            go_wp2_with fail
            go_ret
            exact Hfin.out
        · have hE2 : W.fails E9 = { W with done := true } := by simp [WS.fails, hE]
          rw [hE2] at hx3
          have hne : (E9 == 0) = false := by rw [beq_eq_false_iff_ne]; exact hE
          obtain rfl := HRb.out hE
          have Hfin : Hid (RWPost w r x base v (D9, { W with done := true }, E9) (.returned (.int .i64 E9)) w') := Lib.hid ⟨rfl, hDd, ⟨v, hx3, fun k hk => .inl hk.symm⟩, ho3⟩
          clear hx3 hDd ho3 hE hE2
          go_wp2_with fail
          go_ret
          exact Hfin.out
end Go.Proofs.Ythcajaadbdiggaa
