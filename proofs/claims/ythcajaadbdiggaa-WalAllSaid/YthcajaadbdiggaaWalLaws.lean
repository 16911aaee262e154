/- begun of the laws of wal. -/
import Derived.Test.YthcajaadbdiggaaWalOpen
import Derived.Test.YthcajaadbdiggaaDiskPower
import Derived.Test.YthcajaadbdiggaaDiskNew
import Derived.Lib.SlBytesConst
import Derived.Lib.SmallJoins
namespace Go.Proofs.Ythcajaadbdiggaa
set_option maxRecDepth 1000000
open Go.RowKit

abbrev Any : Nat → Prop := fun _ => True
def ws0 : WS := { f := 0, gen := 0, recs := [], bytes := 0, lives := 0, done := false }
def bo1 : DS × Option WS × Int := wOpen DS.new
def bw1 : WS := bo1.2.1.getD ws0
def ba1 : DS × WS × Int := wApp bo1.1 bw1 [120]
def bs1 : DS × WS × Int := wSync ba1.1 ba1.2.1
def bp1 : DS := bs1.1.power []
def bo2 : DS × Option WS × Int := wOpen bp1
theorem bg_is : bo1.2.1.isSome = true := by decide +kernel
theorem bg_one : bo1.2.1 = some bw1 := by
  have h := bg_is
  unfold bw1
  generalize bo1.2.1 = y at h ⊢
  cases y with
  | none => cases h
  | some _ => rfl
theorem bg_facts : ba1.2.2 = 0 ∧ bs1.2.2 = 0 ∧ bo2.2.1.isSome = true ∧ (wFirst bp1).recs = [[120]] ∧ (wApp bo2.1 bs1.2.1 []).2.2 = 6 := by decide +kernel
theorem bg_small : DS.new.steps + 3 < 1099511627776 ∧ bo1.1.steps < 1099511627776 ∧ ba1.1.steps < 1099511627776 ∧ bs1.1.lives < 1099511627776 ∧ bp1.steps + 3 < 1099511627776 ∧ bo2.1.steps < 1099511627776 ∧ bw1.bytes ≤ 4503599627370496 ∧ bw1.recs.length ≤ 4503599627370496 ∧ bs1.2.1.bytes ≤ 4503599627370496 ∧ bs1.2.1.recs.length ≤ 4503599627370496 := by decide +kernel
/-- Open, its value known to be something -/
theorem OpenPost.some_ {X : Nat → Prop} {w : World} {d b : Nat} {sw : Bool} {D : DS} {e : Ending} {w' : World} (h : OpenPost X w d b sw D e w') {W : WS} (hW : (wOpen D).2.1 = some W) :
    ∃ p B m c, e = .returned (.tuple #[.pointer (some ⟨p, 0, none⟩), .slice B m c, .int .i64 0]) ∧ (∃ V', DiskAt (fun k => X k ∧ k ≠ p) w' d b sw V' (wOpen D).1) ∧ w'.heap[p]? = some (walCells d W) ∧ w.heap.size ≤ p ∧ RdL w' B m (wFirst D).recs ∧ m ≤ c ∧ OnlyD d b w w' := by
  rcases h with ⟨W', p, B, m, c, h1, h2⟩ | ⟨h1, _⟩
  · rw [hW] at h1; injection h1 with h1; subst h1; exact ⟨p, B, m, c, h2⟩
  · rw [hW] at h1; cases h1

set_option maxHeartbeats 4000000 in
theorem begun_calls (w : World) :
    Calls Try.prog 9 #[] w fun e w' => e = .returned (.bool true) ∧ Below w.heap.size w w' := by
  obtain ⟨f1, f2, f3, f4, f5⟩ := bg_facts
  obtain ⟨g1, g2, g3, g4, g5, g6, g7, g8, g9, g10⟩ := bg_small
  obtain ⟨bw2, hbw2⟩ := Option.isSome_iff_exists.1 f3
  have kc := fun (W : World) (C : Array Value) (n c : Nat) => Lib.run_convert_bytes_const (P := Try.prog) W 35 5 C n c Try.underlying35 Try.underlying5
  have HF := Lib.hid (And.intro f4 (And.intro g5 g6))
  clear f3 f4 g5 g6
  go_enter Try.func9, Try.ntmps9
  go_wp2_with fail
  refine (new_calls Any w).mono ?_
  rintro e w1 ⟨d, b, V, rfl, hD, hd, hb, hbel⟩
  go_wp2_with fail
  refine (open_calls (X := Any) d b false V DS.new w1 hD (fun _ _ => trivial) g1).mono ?_
  intro e w2 hpost
  obtain ⟨p, B, m, c, rfl, ⟨V2, hD2⟩, hp2, hpw, -, -, ho2⟩ := hpost.some_ bg_one
  change DiskAt (fun k => Any k ∧ k ≠ p) w2 d b false V2 bo1.1 at hD2
  have hlt1 := hD.lt
  have hpd : p ≠ d ∧ p ≠ b := ⟨by omega, by omega⟩
  have hbel2 := hbel.trans (ho2.below hd hb hbel.size)
  have hwp : w.heap.size ≤ p := Nat.le_trans hbel.size hpw
  have kc2 := kc w2
  clear hpost hD hbel ho2 hlt1 hpw
  go_wp2_with fail
  have hba := (Below.refl w2.heap.size w2).alloc (Nat.le_refl _) (.cells #[.int .u8 120] 5 (1, 2))
  have hra : Rd (w2.alloc (.cells #[.int .u8 120] 5 (1, 2))) (some ⟨w2.heap.size, 0, none⟩) 1 (ub [120]) := Rd.of_row (r := []) (alloc_new w2 _ _ rfl) rfl rfl
  have hD3 := hD2.move hba
  have hp3 := (hba.block p (heap_lt hp2)).trans hp2
  have hbel3 := below_then hbel2 hba
  clear hD2 hp2 hbel2 hba kc2
  generalize w2.alloc (.cells #[.int .u8 120] 5 (1, 2)) = W3 at *
  refine (wapp_calls p d b false V2 bo1.1 bw1 _ 1 _ [120] W3 hp3 hD3 hpd (fun k h => h.2) (fun k hk => ⟨trivial, by have := heap_lt hp3; omega⟩) g2 hra (by decide) g7 g8).mono ?_
  rintro e w4 ⟨rfl, ⟨V4, hD4⟩, hp4, ho4⟩
  change DiskAt _ w4 d b false V4 ba1.1 at hD4
  change w4.heap[p]? = some (walCells d ba1.2.1) at hp4
  have hS : ∀ k, P3 d b p k → w.heap.size ≤ k := fun k hk => by rcases hk with rfl | rfl | rfl <;> omega
  have hbel4 := hbel3.trans (ho4.below hS hbel3.size)
  rw [show (wApp bo1.1 bw1 [120]).2.2 = 0 from f1]
  clear hD3 hra hbel3 ho4 hp3
  go_wp2_with fail
  refine (wsync_calls p d b false V4 ba1.1 ba1.2.1 w4 hp4 hD4 hpd (fun k h => h.2) g3).mono ?_
  rintro e w5 ⟨rfl, ⟨V5, hD5⟩, hp5, ho5⟩
  change DiskAt _ w5 d b false V5 bs1.1 at hD5
  change w5.heap[p]? = some (walCells d bs1.2.1) at hp5
  have hbel5 := hbel4.trans (ho5.below hS hbel4.size)
  rw [show (wSync ba1.1 ba1.2.1).2.2 = 0 from f2]
  clear hD4 hbel4 ho5 hp4
  go_wp2_with fail
  refine (power_calls d b false V5 bs1.1 none 0 0 [] w5 hD5 (fun w' _ => Rd.none_ _ _) (by simp) (by decide) g4).mono ?_
  rintro e w6 ⟨rfl, ⟨V6, hD6⟩, ho6⟩
  change DiskAt _ w6 d b false V6 bp1 at hD6
  have hp6 := (ho6.block p (heap_lt hp5) hpd.1 hpd.2).trans hp5
  have hbel6 := hbel5.trans (ho6.below hd hb hbel5.size)
  clear hD5 hbel5 ho6 hp5
  go_wp2_with fail
  obtain ⟨f4, g5, g6⟩ := HF.out
  refine (open_calls (X := fun k => Any k ∧ k ≠ p) d b false V6 bp1 w6 hD6 (fun k hk => ⟨trivial, by have := heap_lt hp6; omega⟩) g5).mono ?_
  intro e w7 hpost
  obtain ⟨p2, B7, m7, c7, rfl, ⟨V7, hD7⟩, -, hpw2, hrl, -, ho7⟩ := hpost.some_ hbw2
  change DiskAt (fun k => (Any k ∧ k ≠ p) ∧ k ≠ p2) w7 d b false V7 bo2.1 at hD7
  have hp7 := (ho7.block p (heap_lt hp6) hpd.1 hpd.2).trans hp6
  have hbel7 := hbel6.trans (ho7.below hd hb hbel6.size)
  rw [f4] at hrl
  have hm7 : m7 = 1 := hrl.len.symm
  subst hm7
  obtain ⟨ad, l, B8, c8, rfl, hl8, hc8, -, hr8⟩ := hrl.at_ (k := 0) (by decide)
  injection hl8 with hl8
  subst hl8
  have hs1 : (convert 35 9 (.slice B8 1 c8)).run Try.prog w7 = .ok (.string ⟨#[120]⟩) w7 := run_str (P := Try.prog) (dst := 9) Try.underlying35 Try.underlying5 Try.underlying9 hr8 c8
  rw [add_zero'] at hc8
  change w7.cell? ad = some (.slice B8 1 c8) at hc8
  have hfin := wapp_calls p d b false V7 bo2.1 bs1.2.1 none 0 0 [] w7 hp7 (hD7.imp (Y := fun k => Any k ∧ k ≠ p) (fun k _ h => h.1)) hpd (fun k h => h.2) (fun k hk => ⟨trivial, by have := heap_lt hp7; omega⟩) g6 (Rd.none_ _ _) (by decide) g9 g10
  clear hpost hD6 hp6 hbel6 ho7 hrl hr8 hpw2 f4 g5 g6 hD7 hp7
  go_wp2_with fail
  refine hfin.mono ?_
  rintro e w8 ⟨rfl, -, -, ho8⟩
  rw [f5]
  have hbel8 := hbel7.trans (ho8.below hS hbel7.size)
  clear hfin ho8 hbel7
  go_wp2_with fail
  go_ret
  exact ⟨rfl, hbel8⟩
end Go.Proofs.Ythcajaadbdiggaa
