/- SpanReads: the walk of the law. -/
import Derived.Test.YtgamlckdjfjobaaDoorRef10
import Derived.Test.YtgamlckdjfjobaaDoorAwake
namespace Go.Proofs.YtgamlckdjfjobaaDoor
open Go.RowKit

set_option maxRecDepth 100000 in
set_option maxHeartbeats 2000000 in
theorem reads_walk (s : ByteArray) (w : World) (hm : MaxAt w) (hs : s.size ≤ 140737488351232) :
    Calls Tryd.prog 3 #[.string s] w fun e w' => e = .returned (.bool true) ∧ Bl w w' := by
  have HA := awake_any w hm
  by_cases hl : s.size ≤ 1500
  · have hd : decide ((1500 : Int) < (s.size : Int)) = false := decide_eq_false (by omega)
    have H1 := fun W h => code_any s W h (by omega)
    have G1 := fun W => r12code_any s W (by omega)
    have H2 := fun W h => auto_any s W h (by omega)
    have G2 := fun W => r12auto_any s W (by omega)
    have H3 := fun W h => raw_any s W h (by omega)
    have G3 := fun W => r12raw_any s W (by omega)
    have H4 := fun W => run_any s W hs
    have G4 := fun W => r12run_any s W hs
    obtain ⟨A, n, hc⟩ : ∃ A n, codeV s.data.toList = .tuple #[.string A, .int .i64 n] := ⟨_, _, rfl⟩
    obtain ⟨D, E, k, ha⟩ : ∃ D E k, autoV s.data.toList = .tuple #[.string D, .string E, .int .i64 k] := ⟨_, _, _, rfl⟩
    obtain ⟨r, hr⟩ : ∃ r, rawL s.data.toList = r := ⟨_, rfl⟩
    obtain ⟨q, hq⟩ : ∃ q, runL s.data.toList = q := ⟨_, rfl⟩
    rw [hc] at H1 G1
    rw [ha] at H2 G2
    rw [hr] at H3 G3
    rw [hq] at H4 G4
    clear hc ha hr hq
    go_enter Tryd.func3, Tryd.ntmps3
    go_wp2_with fail
    refine HA.mono ?_
    rintro e w1 ⟨rfl, hb1⟩
    go_wp2_with fail
    refine (H1 _ (hm.bl hb1)).mono ?_
    rintro e w2 ⟨rfl, hb2⟩
    have hb12 := hb1.trans hb2
    clear hb1 hb2
    go_wp2_with fail
    refine (G1 _).mono ?_
    rintro e w3 ⟨rfl, hb3⟩
    have hb13 := hb12.trans hb3
    clear hb12 hb3
    go_wp2_with fail
    refine (H2 _ (hm.bl hb13)).mono ?_
    rintro e w4 ⟨rfl, hb4⟩
    have hb14 := hb13.trans hb4
    clear hb13 hb4
    go_wp2_with fail
    refine (G2 _).mono ?_
    rintro e w5 ⟨rfl, hb5⟩
    have hb15 := hb14.trans hb5
    clear hb14 hb5
    go_wp2_with fail
    refine (H3 _ (hm.bl hb15)).mono ?_
    rintro e w6 ⟨rfl, hb6⟩
    have hb16 := hb15.trans hb6
    clear hb15 hb6
    go_wp2_with fail
    refine (G3 _).mono ?_
    rintro e w7 ⟨rfl, hb7⟩
    have hb17 := hb16.trans hb7
    clear hb16 hb7
    go_wp2_with fail
    refine (H4 _).mono ?_
    rintro e w8 ⟨rfl, hb8⟩
    have hb18 := hb17.trans hb8
    clear hb17 hb8
    go_wp2_with fail
    refine (G4 _).mono ?_
    rintro e w9 ⟨rfl, hb9⟩
    have hb19 := hb18.trans hb9
    clear hb18 hb9
    go_wp2
    go_ret
    exact ⟨rfl, hb19⟩
  · have hd : decide ((1500 : Int) < (s.size : Int)) = true := decide_eq_true (by omega)
    go_enter Tryd.func3, Tryd.ntmps3
    go_wp2_with fail
    refine HA.mono ?_
    rintro e w1 ⟨rfl, hb1⟩
    go_wp2
    go_ret
    exact ⟨rfl, hb1⟩

end Go.Proofs.YtgamlckdjfjobaaDoor
