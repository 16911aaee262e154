/- begun of the laws of disk. -/
import Derived.Test.YtafheojankmniaaDiskR
import Derived.Test.YtafheojankmniaaDiskPower
import Derived.Test.YtafheojankmniaaDiskNew
import Derived.Lib.SlBytesConst
import Derived.Lib.SmallJoins
namespace Go.Proofs.Ytafheojankmniaa
open Go.RowKit

abbrev Any : Nat → Prop := fun _ => True
def bg1 : DS × Int := DS.new.appR 0 [97, 98]
def bg2 : DS × Int := bg1.1.syncR 0
def bg3 : DS × Int := bg2.1.appR 0 [99, 100]
def bg4 : DS := bg3.1.power [1]
theorem bg_facts : bg1.2 = 0 ∧ bg2.2 = 0 ∧ readD bg4 0 = ([97, 98, 99], 0) ∧ bg4.lives = 1 ∧ bg4.steps = 3 ∧ bg1.1.steps < 1099511627776 ∧ bg2.1.steps < 1099511627776 ∧ bg3.1.lives < 1099511627776 := by decide +kernel

set_option maxHeartbeats 1000000 in
theorem begun_calls (w : World) :
    Calls Try.prog 9 #[] w fun e w' => e = .returned (.bool true) ∧ Below w.heap.size w w' := by
  obtain ⟨f1, f2, f3, f4, f5, f6, f7, f8⟩ := bg_facts
  have kc := fun (W : World) (C : Array Value) (n c : Nat) => Lib.run_convert_bytes_const (P := Try.prog) W 22 5 C n c Try.underlying22 Try.underlying5
  go_enter Try.func9, Try.ntmps9
  go_wp2_with fail
  refine (new_calls Any w).mono ?_
  rintro e w1 ⟨d, b, V, rfl, hD, hd, hb, hbel⟩
  have kc1 := kc w1
  go_wp2_with fail
  have hba := (Below.refl w1.heap.size w1).alloc (Nat.le_refl _) (.cells #[.int .u8 97, .int .u8 98] 5 (2, 3))
  have hra : Rd (w1.alloc (.cells #[.int .u8 97, .int .u8 98] 5 (2, 3))) (some ⟨w1.heap.size, 0, none⟩) 2 (ub [97, 98]) := Rd.of_row (r := []) (alloc_new w1 _ _ rfl) rfl rfl
  have hD1 := hD.move hba
  have hbel1 := below_then hbel hba
  clear hD hbel hba
  generalize w1.alloc (.cells #[.int .u8 97, .int .u8 98] 5 (2, 3)) = W1 at *
  refine (appR_calls 0 hD1 hra (by decide) (fun _ _ => trivial) (by decide)).mono ?_
  rintro e w2 ⟨rfl, ⟨V2, hD2⟩, ho2⟩
  have hbel2 := hbel1.trans (ho2.below hd hb hbel1.size)
  change DiskAt Any w2 d b false V2 bg1.1 at hD2
  rw [show (DS.new.appR 0 [97, 98]).2 = 0 from f1]
  clear hD1 hra hbel1 ho2 kc1
  go_wp2_with fail
  refine (syncR_calls 0 hD2 f6).mono ?_
  rintro e w3 ⟨rfl, ⟨V3, hD3⟩, ho3⟩
  have hbel3 := hbel2.trans (ho3.below hd hb hbel2.size)
  change DiskAt Any w3 d b false V3 bg2.1 at hD3
  rw [show (bg1.1.syncR 0).2 = 0 from f2]
  clear hD2 hbel2 ho3
  have kc3 := kc w3
  go_wp2_with fail
  have hba := (Below.refl w3.heap.size w3).alloc (Nat.le_refl _) (.cells #[.int .u8 99, .int .u8 100] 5 (2, 3))
  have hra : Rd (w3.alloc (.cells #[.int .u8 99, .int .u8 100] 5 (2, 3))) (some ⟨w3.heap.size, 0, none⟩) 2 (ub [99, 100]) := Rd.of_row (r := []) (alloc_new w3 _ _ rfl) rfl rfl
  have hD1 := hD3.move hba
  have hbel1 := below_then hbel3 hba
  clear hD3 hbel3 hba
  generalize w3.alloc (.cells #[.int .u8 99, .int .u8 100] 5 (2, 3)) = W1 at *
  refine (appR_calls 0 hD1 hra (by decide) (fun _ _ => trivial) f7).mono ?_
  rintro e w4 ⟨rfl, ⟨V4, hD4⟩, ho4⟩
  have hbel4 := hbel1.trans (ho4.below hd hb hbel1.size)
  change DiskAt Any w4 d b false V4 bg3.1 at hD4
  clear hD1 hra hbel1 ho4 kc3
  generalize (bg2.1.appR 0 [99, 100]).2 = E3
  go_wp2_with fail
  have hba := (Below.refl w4.heap.size w4).alloc (Nat.le_refl _) (.cells #[.int .i64 1] 3)
  have x1 := alloc_new w4 (.cells #[.int .i64 1] 3) _ rfl
  have hlt4 := hD4.lt
  have hra : ∀ w', OnlyD d b (w4.alloc (.cells #[.int .i64 1] 3)) w' → Rd w' (some ⟨w4.heap.size, 0, none⟩) 1 ([1].map (Value.int .i64)) := fun w' ho =>
    Rd.of_row (r := []) ((ho.block _ (heap_lt x1) (by omega) (by omega)).trans x1) rfl rfl
  have hD1 := hD4.move hba
  have hbel1 := below_then hbel4 hba
  clear hD4 hbel4 hba x1 hlt4
  generalize w4.alloc (.cells #[.int .i64 1] 3) = W1 at *
  refine (power_calls d b false V4 bg3.1 (some ⟨w4.heap.size, 0, none⟩) 1 1 [1] W1 hD1 hra (by decide) (by decide) f8).mono ?_
  rintro e w5 ⟨rfl, ⟨V5, hD5⟩, ho5⟩
  have hbel5 := hbel1.trans (ho5.below hd hb hbel1.size)
  change DiskAt Any w5 d b false V5 bg4 at hD5
  clear hD1 hra hbel1 ho5
  go_wp2_with fail
  refine (read_calls d b false V5 bg4 0 w5 hD5).mono ?_
  rw [f3]
  rintro e w6 ⟨⟨u, k, rfl, rfl, hown⟩, hb6⟩
  have hD6 := hD5.move hb6
  have hbel6 := below_then hbel5 hb6
  obtain ⟨A, c, rfl, _, hrd⟩ := own_rd hown
  have hs1 : (convert 22 9 (.slice A 3 c)).run Try.prog w6 = .ok (.string ⟨#[97, 98, 99]⟩) w6 := run_str (P := Try.prog) (dst := 9) Try.underlying22 Try.underlying5 Try.underlying9 hrd c
  have hl := lives_calls d b false V5 bg4 w6 hD6
  have hst := steps_calls d b false V5 bg4 w6 hD6
  rw [f4] at hl
  rw [f5] at hst
  clear hD5 hbel5 hb6 hown hrd hD6
  go_wp2_with fail
  refine hl.mono ?_
  rintro e w7 ⟨rfl, rfl⟩
  go_wp2_with fail
  refine hst.mono ?_
  rintro e w7 ⟨rfl, rfl⟩
  go_wp2_with fail
  go_ret
  exact ⟨rfl, hbel6⟩
end Go.Proofs.Ytafheojankmniaa
