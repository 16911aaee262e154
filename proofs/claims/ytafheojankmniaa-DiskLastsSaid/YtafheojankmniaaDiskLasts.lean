/- The walk of the law DiskLasts. -/
import Derived.Test.YtafheojankmniaaDiskLaws
import Derived.Test.YtafheojankmniaaDiskPower
import Derived.Test.YtafheojankmniaaOpsArg
import Derived.Test.YtafheojankmniaaCutH
import Derived.Deep.QuietTactic
import Derived.BigQuiet
namespace Go.Proofs.Ytafheojankmniaa
open Go.RowKit

/-- the beginning bs of a file lasts -/
def Keeps (D : DS) (f : Int) (bs : List UInt8) : Prop := bs <+: (D.b f).take (D.l f)
theorem Keeps.step {D : DS} {f : Int} {bs : List UInt8} (h : Keeps D f bs) : Keeps D.step f bs := h
theorem Keeps.put {D : DS} {f g : Int} {bs : List UInt8} (h : Keeps D f bs) {xs : List UInt8} {l : Nat} (hg : g = f → bs <+: xs.take l) : Keeps (D.put g xs l) f bs := by
  unfold Keeps DS.put
  by_cases e : f = g
  · subst e; simp; exact hg rfl
  · simp [e]; exact h
theorem Keeps.stepR {D D' : DS} {f : Int} {bs : List UInt8} (h : Keeps D f bs) (h' : Keeps D' f bs) : Keeps (D.stepR D').1 f bs := by
  unfold DS.stepR; split
  · exact h
  · exact h'
theorem Keeps.askR {D D' : DS} {g f : Int} {bs : List UInt8} (h : Keeps D f bs) (h' : Keeps D' f bs) : Keeps (D.askR g D').1 f bs := by
  unfold DS.askR; split
  · exact h.stepR h'
  · exact h
theorem Keeps.app {D : DS} {f : Int} {bs : List UInt8} (h : Keeps D f bs) (hok : D.Ok) (g : Int) (ys : List UInt8) : Keeps (D.appR g ys).1 f bs := by
  unfold DS.appR; split
  · exact h
  · refine h.askR (h.put fun e => ?_)
    subst e
    rw [List.take_append_of_le_length (hok.last g)]
    exact h
theorem Keeps.sync {D : DS} {f : Int} {bs : List UInt8} (h : Keeps D f bs) (g : Int) : Keeps (D.syncR g).1 f bs := by
  refine Keeps.askR h (h.put fun e => ?_)
  subst e
  rw [List.take_length]
  exact h.trans (List.take_prefix _ _)
theorem Keeps.clear {D : DS} {f : Int} {bs : List UInt8} (h : Keeps D f bs) {g : Int} (hg : g ≠ f) : Keeps (D.clearR g).1 f bs :=
  Keeps.askR h (h.put fun e => absurd e hg)
theorem Keeps.power {D : DS} {f : Int} {bs : List UInt8} (h : Keeps D f bs) (zs : List Int) : Keeps (D.power zs) f bs := by
  unfold Keeps DS.power DS.cuts
  simp only
  by_cases hf : f = 0 ∨ f = 1
  · rw [if_pos (by simpa using hf), if_pos (by simpa using hf), List.take_take, Nat.min_self]
    refine h.trans ?_
    have : D.l f ≤ newL D zs f := Nat.le_add_right _ _
    exact List.take_prefix_take_left this
  · rw [if_neg (by simpa using hf), if_neg (by simpa using hf)]
    exact h
/-- behind the last failure the bytes are read -/
theorem Keeps.read {D : DS} {f : Int} {bs : List UInt8} (h : Keeps D f bs) (hf : f = 0 ∨ f = 1) (zs : List Int) : (readD (D.power zs) f).2 = 0 ∧ bs <+: (readD (D.power zs) f).1 := by
  have h2 := h.power zs
  have e : readD (D.power zs) f = ((D.power zs).b f, 0) := by
    unfold readD mayE DS.power
    simp [hf]
  rw [e]
  exact ⟨rfl, h2.trans (List.take_prefix _ _)⟩
theorem Keeps.start {f : Int} (hf : f = 0 ∨ f = 1) {bs : List UInt8} (hl : bs.length ≤ 1000) : (DS.new.appR f bs).2 = 0 ∧ ((DS.new.appR f bs).1.syncR f).2 = 0 ∧ Keeps ((DS.new.appR f bs).1.syncR f).1 f bs ∧ (DS.new.appR f bs).1.steps ≤ 1 ∧ ((DS.new.appR f bs).1.syncR f).1.steps ≤ 2 ∧ ((DS.new.appR f bs).1.syncR f).1.lives = 0 := by
  have e1 : DS.new.appR f bs = ((DS.new.put f bs 0).step, 0) := by
    rw [appR_ok (by simp [mayE, DS.new, hf]) (by simp [DS.new]; omega) (by decide)]; simp [DS.new]
  have e2 : (DS.new.put f bs 0).step.syncR f = (((DS.new.put f bs 0).step.put f bs bs.length).step, 0) := by
    rw [syncR_ok (by simp [mayE, DS.new, DS.put, DS.step, hf]) (by simp [DS.new, DS.put, DS.step])]
    simp [DS.put, DS.step, DS.new]
  rw [e1]
  simp only
  rw [e2]
  refine ⟨by simp, by simp, ?_, ?_, ?_, ?_⟩
  · unfold Keeps
    simp [DS.put, DS.step]
  · simp [DS.put, DS.step, DS.new]
  · simp [DS.put, DS.step, DS.new]
  · simp [DS.put, DS.step, DS.new]

/-- what the law does to its disk -/
def lastOp (D : DS) (f : Int) (o : Op4) : DS :=
  if o.kind % 6 = 0 then (D.appR o.f o.b).1 else if o.kind % 6 = 1 then (D.syncR o.f).1 else if o.kind % 6 = 2 then (if o.f = f then D else (D.clearR o.f).1) else if o.kind % 6 = 3 then D else if o.kind % 6 = 4 then { D with armed := max o.n (-1) } else D.power o.keep
theorem Keeps.op {D : DS} {f : Int} {bs : List UInt8} (h : Keeps D f bs) (hok : D.Ok) (o : Op4) : Keeps (lastOp D f o) f bs := by
  unfold lastOp
  split
  · exact h.app hok _ _
  split
  · exact h.sync _
  split
  · split
    · exact h
    · exact h.clear (by assumption)
  split
  · exact h
  split
  · exact h
  · exact h.power _
theorem lastOp_steps (D : DS) (f : Int) (o : Op4) : (lastOp D f o).steps ≤ D.steps + 1 ∧ (lastOp D f o).lives ≤ D.lives + 1 := by
  unfold lastOp
  split
  · exact ⟨appR_steps _ _ _, by rw [appR_lives]; omega⟩
  split
  · exact ⟨syncR_steps _ _, by rw [syncR_lives]; omega⟩
  split
  · split
    · omega
    · exact ⟨clearR_steps _ _, by rw [clearR_lives]; omega⟩
  split
  · omega
  split
  · simp
  · simp [DS.power, DS.cuts]

theorem lastOp_0 {D : DS} {f : Int} {o : Op4} (h : o.kind % 6 = 0) : lastOp D f o = (D.appR o.f o.b).1 := by unfold lastOp; rw [if_pos h]
theorem lastOp_1 {D : DS} {f : Int} {o : Op4} (h : o.kind % 6 = 1) : lastOp D f o = (D.syncR o.f).1 := by unfold lastOp; rw [if_neg (by omega), if_pos h]
theorem lastOp_2 {D : DS} {f : Int} {o : Op4} (h : o.kind % 6 = 2) (hf : ¬ o.f = f) : lastOp D f o = (D.clearR o.f).1 := by unfold lastOp; rw [if_neg (by omega), if_neg (by omega), if_pos h, if_neg hf]
theorem lastOp_2e {D : DS} {f : Int} {o : Op4} (h : o.kind % 6 = 2) (hf : o.f = f) : lastOp D f o = D := by unfold lastOp; rw [if_neg (by omega), if_neg (by omega), if_pos h, if_pos hf]
theorem lastOp_3 {D : DS} {f : Int} {o : Op4} (h : o.kind % 6 = 3) : lastOp D f o = D := by unfold lastOp; rw [if_neg (by omega), if_neg (by omega), if_neg (by omega), if_pos h]
theorem lastOp_4 {D : DS} {f : Int} {o : Op4} (h : o.kind % 6 = 4) : lastOp D f o = { D with armed := max o.n (-1) } := by unfold lastOp; rw [if_neg (by omega), if_neg (by omega), if_neg (by omega), if_neg (by omega), if_pos h]
theorem lastOp_5 {D : DS} {f : Int} {o : Op4} (h : o.kind % 6 = 5) : lastOp D f o = D.power o.keep := by unfold lastOp; rw [if_neg (by omega), if_neg (by omega), if_neg (by omega), if_neg (by omega), if_neg (by omega)]

set_option maxHeartbeats 4000000 in
theorem disklasts_walk (w : World) (f0 : Int) (hf1 : -9223372036854775808 ≤ f0) (hf2 : f0 ≤ 9223372036854775807) (A2 : Option Addr) (n2 cap2 : Nat) (bs : List UInt8) (hx : Rd w A2 n2 (ub bs)) (hn2 : n2 ≤ 140737488355328) (hc2 : n2 ≤ cap2)
    (A : Option Addr) (n cap : Nat) (os : List Op4) (hr : RdOps w A n os) (hn : n ≤ 140737488355328) (_hc : n ≤ cap) :
    Calls Try.prog 4 #[.int .i64 f0, .slice A2 n2 cap2, .slice A n cap] w fun e w' => e = .returned (.bool true) ∧ Below w.heap.size w w' := by
  go_enter Try.func4, Try.ntmps4
  go_wp2_with fail
  refine (begun_calls _).mono ?_
  rintro e w1 ⟨rfl, hb1⟩
  have hr1 := hr.below hb1
  go_wp2_with fail
  refine (light_calls A n cap os 60 _ hr1 hn (by decide)).mono ?_
  rintro e w2 ⟨hp, rfl⟩
  rcases hp with ⟨rfl, hlight⟩ | rfl
  · by_cases h1 : n2 ≤ 1000
    · go_wp2_with fail
      refine (place_calls f0 2 _ (by decide) (by decide) hf1 hf2).mono ?_
      rintro e w2 ⟨rfl, rfl⟩
      obtain ⟨f, hf⟩ : ∃ f : Int, f0 % ((2 : Nat) : Int) = f := ⟨_, rfl⟩
      have hf01 : f = 0 ∨ f = 1 := by omega
      rw [hf]
      clear hf hf1 hf2
      obtain ⟨k1, k2, k3, k4, k5, k6⟩ := Keeps.start hf01 (bs := bs) (by rw [hx.len]; exact h1)
      go_wp2_with fail
      refine (new_calls Any _).mono ?_
      rintro e w2 ⟨d, b, V, rfl, hD, hd, hb, hb2⟩
      have hbel := below_then hb1 hb2
      have hdw : w.heap.size ≤ d ∧ w.heap.size ≤ b := by have := hb1.size; omega
      go_wp2_with fail
      refine (appR_calls f hD (hx.below hbel) (by omega) (fun _ _ => trivial) (by decide)).mono ?_
      generalize DS.new.appR f bs = R1 at *
      rintro e w3 ⟨rfl, ⟨V3, hD3⟩, ho3⟩
      rw [k1]
      have hbel3 := hbel.trans (ho3.below hdw.1 hdw.2 hbel.size)
      clear hD ho3 hb2 hb1 hr1
      go_wp2_with fail
      refine (syncR_calls f hD3 (by omega)).mono ?_
      generalize R1.1.syncR f = R2 at *
      rintro e w4 ⟨rfl, ⟨V4, hD4⟩, ho4⟩
      rw [k2]
      have hbel4 := hbel3.trans (ho4.below hdw.1 hdw.2 hbel3.size)
      clear hD3 ho4 hbel3 hbel
      have HK := Lib.hid k3
      go_wp2_with fail
      go_loopw [8] (fun i wr => ∃ (k : Nat) (D : DS) (V' : Int → Value), k ≤ n ∧ i = .int .i64 k ∧ DiskAt Any wr d b false V' D ∧ Hid (Keeps D f bs) ∧ D.steps ≤ k + 2 ∧ D.lives ≤ k ∧ Below w.heap.size w wr) (fun i _ => n - (intOf i).toNat)
      case atStart => exact ⟨0, R2.1, V4, Nat.zero_le _, rfl, hD4, HK, by omega, by omega, hbel4⟩
      case round =>
        clear hD4 HK hbel4 k1 k2 k3 k4 k5 k6
        obtain ⟨k, D, V', hk, rfl, hD, HK, hst, hlv, hbel⟩ := hrel
        by_cases hlt : k < n
        · obtain ⟨g, q, o, rfl, ho, hok, B, cb, K, ck, h0, h1, h2, h3, h4, h5, h6, h7, h8⟩ := hr.at_ hlt
          have hlo := hlight.2 o (List.mem_of_getElem? ho)
          have hn60 := hlight.1
          have hk1 : (k : Int) < n := by omega
          have hmv : ∀ (w' : World) a v, Below w.heap.size w w' → w.cell? a = some v → w'.cell? a = some v := fun w' a v hb hc => (hb.cell (World.block_lt_of_cell? w a hc)).trans hc
          have c0 := hmv wr _ _ hbel h0
          have c1 := hmv wr _ _ hbel h1
          have c2 := hmv wr _ _ hbel h2
          have c3 := hmv wr _ _ hbel h3
          have c4 := hmv wr _ _ hbel h4
          have hst2 := lastOp_steps D f o
          have HK1 := HK.out.op hD.ok o
          have hpl := fun W => place_calls o.kind 6 W (by decide) (by decide) hok.kind.1 hok.kind.2
          have hba := (Below.refl wr.heap.size wr).alloc (Nat.le_refl _) (.cells #[.int .i64 o.kind, .int .i64 o.f, .int .i64 o.n, .slice B o.b.length cb, .slice K o.keep.length ck] 38)
          have x0 := alloc_new wr (.cells #[.int .i64 o.kind, .int .i64 o.f, .int .i64 o.n, .slice B o.b.length cb, .slice K o.keep.length ck] 38) _ rfl
          have hD1 := hD.move hba
          have hbel1 := below_then hbel hba
          clear ho h0 h1 h2 h3 h4 hmv hba
          go_wp2_with fail
          clear c0 c1 c2 c3 c4
          generalize wr.alloc (.cells #[.int .i64 o.kind, .int .i64 o.f, .int .i64 o.n, .slice B o.b.length cb, .slice K o.keep.length ck] 38) = W at *
          refine (hpl W).mono ?_
          rintro e W' ⟨rfl, rfl⟩
          have hlt6 := Int.emod_lt_of_pos o.kind (show (0 : Int) < 6 by decide)
          have hge0 := Int.emod_nonneg o.kind (show (6 : Int) ≠ 0 by decide)
          have p1 : W.cell? ⟨wr.heap.size, 1, none⟩ = some (.int .i64 o.f) := by rw [cell_row x0]; rfl
          have p2 : W.cell? ⟨wr.heap.size, 2, none⟩ = some (.int .i64 o.n) := by rw [cell_row x0]; rfl
          have p3 : W.cell? ⟨wr.heap.size, 3, none⟩ = some (.slice B o.b.length cb) := by rw [cell_row x0]; rfl
          have p4 : W.cell? ⟨wr.heap.size, 4, none⟩ = some (.slice K o.keep.length ck) := by rw [cell_row x0]; rfl
          clear x0 hpl HK
          generalize hkd : o.kind % ((6 : Nat) : Int) = kd
          have hkd : o.kind % 6 = kd := hkd
          obtain rfl | rfl | rfl | rfl | rfl | rfl : kd = 0 ∨ kd = 1 ∨ kd = 2 ∨ kd = 3 ∨ kd = 4 ∨ kd = 5 := by omega
          · rw [lastOp_0 hkd] at HK1 hst2
            go_wp2_with fail
            refine (appR_calls o.f hD1 (h6.below hbel1) (by omega) (fun _ _ => trivial) (by omega)).mono ?_
            generalize D.appR o.f o.b = R at *
            rintro e w5 ⟨rfl, ⟨V5, hD2⟩, ho5⟩
            have hbel2 := hbel1.trans (ho5.below hdw.1 hdw.2 hbel1.size)
            clear hD1 hD hbel hbel1 p1 p2 p3 p4 ho5 hx
            have HK2 := Lib.hid HK1
            clear HK1
            go_wp2_with fail
            go_roundw
            case rel => exact ⟨k + 1, _, _, by omega, by go_num, hD2, HK2, by omega, by omega, hbel2⟩
            case measure => simp [intOf]; omega
          · rw [lastOp_1 hkd] at HK1 hst2
            go_wp2_with fail
            refine (syncR_calls o.f hD1 (by omega)).mono ?_
            generalize D.syncR o.f = R at *
            rintro e w5 ⟨rfl, ⟨V5, hD2⟩, ho5⟩
            have hbel2 := hbel1.trans (ho5.below hdw.1 hdw.2 hbel1.size)
            clear hD1 hD hbel hbel1 p1 p2 p3 p4 ho5 hx
            have HK2 := Lib.hid HK1
            clear HK1
            go_wp2_with fail
            go_roundw
            case rel => exact ⟨k + 1, _, _, by omega, by go_num, hD2, HK2, by omega, by omega, hbel2⟩
            case measure => simp [intOf]; omega
          · by_cases hof : o.f = f
            · rw [lastOp_2e hkd hof] at HK1 hst2
              subst hof
              have hD2 := hD1
              have hbel2 := hbel1
              clear hD1 hD hbel hbel1 hx
              have HK2 := Lib.hid HK1
              clear HK1
              go_wp2_with fail
              go_roundw
              case rel => exact ⟨k + 1, _, _, by omega, by go_num, hD2, HK2, by omega, by omega, hbel2⟩
              case measure => simp [intOf]; omega
            · rw [lastOp_2 hkd hof] at HK1 hst2
              have hne : (o.f != f) = true := by rw [bne_iff_ne]; exact hof
              go_wp2_with fail
              refine (clearR_calls o.f hD1 (by omega)).mono ?_
              generalize D.clearR o.f = R at *
              rintro e w5 ⟨rfl, ⟨V5, hD2⟩, ho5⟩
              have hbel2 := hbel1.trans (ho5.below hdw.1 hdw.2 hbel1.size)
              clear hD1 hD hbel hbel1 p1 p2 p3 p4 ho5 hx
              have HK2 := Lib.hid HK1
              clear HK1
              go_wp2_with fail
              go_roundw
              case rel => exact ⟨k + 1, _, _, by omega, by go_num, hD2, HK2, by omega, by omega, hbel2⟩
              case measure => simp [intOf]; omega
          · rw [lastOp_3 hkd] at HK1 hst2
            have hD2 := hD1
            have hbel2 := hbel1
            clear hD1 hD hbel hbel1 hx
            have HK2 := Lib.hid HK1
            clear HK1
            go_wp2_with fail
            go_roundw
            case rel => exact ⟨k + 1, _, _, by omega, by go_num, hD2, HK2, by omega, by omega, hbel2⟩
            case measure => simp [intOf]; omega
          · rw [lastOp_4 hkd] at HK1 hst2
            go_wp2_with fail
            refine (arm_calls d b false V' D o.n W hD1 hok.n.2).mono ?_
            rintro e w5 ⟨rfl, hD2, ho5⟩
            have hbel2 := hbel1.trans (ho5.below hdw.1 hdw.2 hbel1.size)
            clear hD1 hD hbel hbel1 p1 p2 p3 p4 ho5 hx
            have HK2 := Lib.hid HK1
            clear HK1
            go_wp2_with fail
            go_roundw
            case rel => exact ⟨k + 1, _, _, by omega, by go_num, hD2, HK2, by show D.steps ≤ _; omega, by show D.lives ≤ _; omega, hbel2⟩
            case measure => simp [intOf]; omega
          · rw [lastOp_5 hkd] at HK1 hst2
            go_wp2_with fail
            refine (power_calls d b false V' D K o.keep.length ck o.keep W hD1 (fun w' ho => h8.below (hbel1.trans (ho.below hdw.1 hdw.2 hbel1.size))) hok.keep (by omega) (by omega)).mono ?_
            generalize D.power o.keep = R at *
            rintro e w5 ⟨rfl, ⟨V5, hD2⟩, ho5⟩
            have hbel2 := hbel1.trans (ho5.below hdw.1 hdw.2 hbel1.size)
            clear hD1 hD hbel hbel1 p1 p2 p3 p4 ho5 hx
            have HK2 := Lib.hid HK1
            clear HK1
            go_wp2_with fail
            go_roundw
            case rel => exact ⟨k + 1, _, _, by omega, by go_num, hD2, HK2, by omega, by omega, hbel2⟩
            case measure => simp [intOf]; omega
        · obtain rfl : k = n := by omega
          have hn60 := hlight.1
          obtain ⟨r1, r2⟩ := HK.out.read hf01 []
          go_wp2_with fail
          refine (power_calls d b false V' D none 0 0 [] wr hD (fun w' _ => Rd.none_ _ _) (by simp) (by decide) (by omega)).mono ?_
          generalize D.power [] = D5 at *
          rintro e w5 ⟨rfl, ⟨V5, hD5⟩, ho5⟩
          have hbel5 := hbel.trans (ho5.below hdw.1 hdw.2 hbel.size)
          clear hD ho5 hbel
          go_wp2_with fail
          refine (read_calls d b false V5 D5 f w5 hD5).mono ?_
          generalize readD D5 f = RD at *
          rintro e w6 ⟨⟨u, m, rfl, hm, hown⟩, hb6⟩
          have hbel6 := below_then hbel5 hb6
          rw [r1]
          clear hD5 hbel5 hb6
          obtain ⟨C, c, rfl, hcc, hrd⟩ := own_rd hown
          have hpl := r2.length_le
          have hxl := hx.len
          rw [hxl] at hpl
          obtain ⟨A', hcut, hA'⟩ := cut_h (P := Try.prog) Try.underlying22 (size_of_info info_u8d) C m c n2 (by omega) hcc
          have htk : RD.1.take n2 = bs := by rw [← hxl]; exact (List.prefix_iff_eq_take.1 r2).symm
          have hs1 := fun N : Nat => run_str (P := Try.prog) (dst := 9) Try.underlying22 Try.underlying5 Try.underlying9 ((hA' _ _ hrd).below (below_drewN (Below.refl _ _) N)) c
          have hs2 := fun N : Nat => run_str (P := Try.prog) (dst := 9) Try.underlying22 Try.underlying5 Try.underlying9 ((hx.below hbel6).below (below_drewN (Below.refl _ _) N)) cap2
          rw [htk] at hs1
          generalize txt bs = S1 at *
          have hm2 : (n2 : Int) ≤ m := by omega
          have hm3 : (0 : Int) ≤ n2 := by omega
          clear hown hrd hA' hx htk hm hpl r2 r1
          go_wp2_with fail
          go_quiet (fail)
          go_wp2_with fail
          go_ret
          exact ⟨rfl, below_drewN hbel6 _⟩
    · go_wp2_with fail
      go_ret
      exact ⟨rfl, hb1⟩
  · go_wp2_with fail
    go_ret
    exact ⟨rfl, hb1⟩
end Go.Proofs.Ytafheojankmniaa
