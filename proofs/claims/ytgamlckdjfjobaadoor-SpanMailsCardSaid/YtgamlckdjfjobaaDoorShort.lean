/- SpanShort: the walk of the law. -/
import Derived.Test.YtgamlckdjfjobaaDoorAwake
import Derived.Test.YtgamlckdjfjobaaDoorPlain12
namespace Go.Proofs.YtgamlckdjfjobaaDoor
open Go.RowKit

theorem at_byte (s : ByteArray) (j : Nat) (b : UInt8) (h : s.data.toList[j]? = some b) : ∃ hj : j < s.size, s[j] = b := by
  have hj : j < s.size := by
    have := (List.getElem?_eq_some_iff.mp h).1; rw [size_len] at this; exact this
  refine ⟨hj, ?_⟩
  have := at_some s j hj
  rw [this] at h
  exact Option.some.inj h
theorem at_not (s : ByteArray) (j : Nat) (hj : j < s.size) (b : UInt8) (h : s.data.toList[j]? ≠ some b) : s[j] ≠ b := by
  intro e
  rw [at_some s j hj, e] at h
  exact h rfl

set_option maxRecDepth 100000 in
set_option maxHeartbeats 2000000 in
theorem short_walk (s : ByteArray) (w : World) (hm : MaxAt w) (hs : s.size ≤ 140737488351232) :
    Calls Tryd.prog 6 #[.string s] w fun e w' => e = .returned (.bool true) ∧ Bl w w' := by
  have HA := awake_any w hm
  by_cases hl : s.size ≤ 1500
  · have hd : decide ((1500 : Int) < (s.size : Int)) = false := decide_eq_false (by omega)
    obtain ⟨C, hC⟩ : ∃ C, mkB (codeL s.data.toList).1 = C := ⟨_, rfl⟩
    obtain ⟨n, hn⟩ : ∃ n, (codeL s.data.toList).2 = n := ⟨_, rfl⟩
    obtain ⟨A1, hA1⟩ : ∃ A1, mkB (autoL s.data.toList).1 = A1 := ⟨_, rfl⟩
    obtain ⟨A2, hA2⟩ : ∃ A2, mkB (autoL s.data.toList).2.1 = A2 := ⟨_, rfl⟩
    obtain ⟨m, hmm⟩ : ∃ m, (autoL s.data.toList).2.2 = m := ⟨_, rfl⟩
    obtain ⟨k, hk⟩ : ∃ k, rawL s.data.toList = k := ⟨_, rfl⟩
    have H1 := code_is s (.tuple #[.string C, .int .i64 (n : Int)]) (by unfold codeV; rw [hC, hn]) (by omega)
    have H2 := auto_is s (.tuple #[.string A1, .string A2, .int .i64 (m : Int)]) (by unfold autoV; rw [hA1, hA2, hmm]) (by omega)
    have H3 := raw_is s (k : Int) (by rw [hk]) (by omega)
    have hnl : n ≤ s.size := by rw [← hn, ← size_len]; exact codeL_le _
    have hml : m ≤ s.size := by rw [← hmm, ← size_len]; exact autoL_le _
    have hkl : k ≤ s.size := by rw [← hk, ← size_len]; exact rawL_le _
    have g1 : decide ((s.size : Int) < (n : Int)) = false := decide_eq_false (by omega)
    have g2 : decide ((s.size : Int) < (m : Int)) = false := decide_eq_false (by omega)
    have g3 : decide ((s.size : Int) < (k : Int)) = false := decide_eq_false (by omega)
    have g4 : decide ((n : Int) < 0) = false := decide_eq_false (by omega)
    have g5 : decide ((m : Int) < 0) = false := decide_eq_false (by omega)
    have g6 : decide ((k : Int) < 0) = false := decide_eq_false (by omega)
    clear hC hA1 hA2 hmm hk
    by_cases hn0 : n = 0
    · subst hn0
      clear hn
      go_enter Tryd.func6, Tryd.ntmps6
      go_wp2_with fail
      refine HA.mono ?_
      rintro e w1 ⟨rfl, hb1⟩
      go_wp2_with fail
      refine (H1 _ (hm.bl hb1)).mono ?_
      rintro e w2 ⟨rfl, hb2⟩
      have hb12 := hb1.trans hb2
      go_wp2_with fail
      refine (H2 _ (hm.bl hb12)).mono ?_
      rintro e w3 ⟨rfl, hb3⟩
      have hb13 := hb12.trans hb3
      go_wp2_with fail
      refine (H3 _ (hm.bl hb13)).mono ?_
      rintro e w4 ⟨rfl, hb4⟩
      have hb14 := hb13.trans hb4
      go_wp2
      go_ret
      exact ⟨rfl, hb14⟩
    · have c := codeL_len s.data.toList (by omega)
      rw [hn] at c
      obtain ⟨r, hr⟩ : ∃ r, runL s.data.toList = r := ⟨_, rfl⟩
      have H4 := run_isI s (r : Int) (by rw [hr]) (by omega)
      have hbig := c.big
      have htick := c.tick
      have hahead := c.ahead
      rw [hr] at hbig htick hahead
      have hstop := c.stop
      have n0 : ((n : Int) == 0) = false := by simpa using hn0
      have q1 : decide ((2 : Int) * (r : Int) + 1 ≤ (n : Int)) = true := decide_eq_true (by omega)
      have hp1 : 0 ≤ (n : Int) - 1 - (r : Int) := by omega
      have hp2 : (n : Int) - 1 - (r : Int) < (s.size : Int) := by omega
      have hz : n - 1 - r < s.size := by omega
      have hne := at_not s (n - 1 - r) hz 96 hahead
      have hneI : ((s[n - 1 - r].toNat : Int) != 96) = true := by rw [ne_of_byte (c := 96) 96 rfl]; simpa using hne
      have T := Lib.hid htick
      have ST := Lib.hid hstop
      clear hn hr c hahead htick hstop hne hn0
      go_enter Tryd.func6, Tryd.ntmps6
      go_wp2_with fail
      refine HA.mono ?_
      rintro e w1 ⟨rfl, hb1⟩
      go_wp2_with fail
      refine (H1 _ (hm.bl hb1)).mono ?_
      rintro e w2 ⟨rfl, hb2⟩
      have hb12 := hb1.trans hb2
      go_wp2_with fail
      refine (H2 _ (hm.bl hb12)).mono ?_
      rintro e w3 ⟨rfl, hb3⟩
      have hb13 := hb12.trans hb3
      go_wp2_with fail
      refine (H3 _ (hm.bl hb13)).mono ?_
      rintro e w4 ⟨rfl, hb4⟩
      have hb14 := hb13.trans hb4
      go_wp2_with fail
      refine (H4 _).mono ?_
      rintro e w5 ⟨rfl, hb5⟩
      have hb15 := hb14.trans hb5
      clear hb1 hb2 hb12 hb3 hb13 hb4 hb14 hb5 H1 H2 H3 H4 HA
      go_wp2
      go_loopw [11] (fun i wr => ∃ j : Nat, j ≤ r ∧ i = .int .i64 j ∧ Bl w wr) (fun i _ => r - (intOf i).toNat)
      case atStart => exact ⟨0, Nat.zero_le _, rfl, hb15⟩
      case round =>
        obtain ⟨j, hj, rfl, hb⟩ := hrel
        by_cases hlt : j < r
        · obtain ⟨hjs, hje⟩ := at_byte s (n - 1 - j) 96 (T.out j hlt)
          have i1 : 0 ≤ (n : Int) - 1 - (j : Int) := by omega
          have i2 : (n : Int) - 1 - (j : Int) < (s.size : Int) := by omega
          have et : ((n : Int) - 1 - (j : Int)).toNat = n - 1 - j := by omega
          go_wp2
          go_roundw
          case rel => exact ⟨j + 1, by omega, by go_num, hb⟩
          case measure => simp [intOf]; omega
        · have et : ((n : Int) - 1 - (r : Int)).toNat = n - 1 - r := by omega
          by_cases hns : n = s.size
          · have z1 : ((n : Int) == (s.size : Int)) = true := beq_iff_eq.2 (by omega)
            clear hns
            go_wp2
            go_ret
            exact ⟨rfl, hb⟩
          · have z1 : ((n : Int) == (s.size : Int)) = false := beq_eq_false_iff_ne.2 (by omega)
            have hnz : n < s.size := by omega
            have hne := at_not s n hnz 96 ST.out
            have z2 : ((s[n].toNat : Int) != 96) = true := by rw [ne_of_byte (c := 96) 96 rfl]; simpa using hne
            clear hne hns
            go_wp2
            go_ret
            exact ⟨rfl, hb⟩
  · have hd : decide ((1500 : Int) < (s.size : Int)) = true := decide_eq_true (by omega)
    clear hl
    go_enter Tryd.func6, Tryd.ntmps6
    go_wp2_with fail
    refine HA.mono ?_
    rintro e w1 ⟨rfl, hb1⟩
    go_wp2
    go_ret
    exact ⟨rfl, hb1⟩

end Go.Proofs.YtgamlckdjfjobaaDoor
