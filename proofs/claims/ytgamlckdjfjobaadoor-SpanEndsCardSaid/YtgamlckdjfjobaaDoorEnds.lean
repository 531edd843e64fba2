/- SpanEnds: the walk of the law. -/
import Derived.Test.YtgamlckdjfjobaaDoorAwake
import Derived.Test.YtgamlckdjfjobaaDoorEndsRaw
import Derived.Test.YtgamlckdjfjobaaDoorShort
namespace Go.Proofs.YtgamlckdjfjobaaDoor
open Go.RowKit

theorem cat_data' (a s : ByteArray) : (a ++ s).data.toList = a.data.toList ++ s.data.toList := by simp
theorem extract0 (s : ByteArray) (n : Nat) : (s.extract 0 n).data.toList = s.data.toList.take n := by
  rw [Lib.extract_data, List.drop_zero, Nat.sub_zero]

set_option maxRecDepth 100000 in
set_option maxHeartbeats 2000000 in
theorem ends_walk (s more : ByteArray) (w : World) (hm : MaxAt w) (hs : s.size ≤ 140737488351232) (hs2 : more.size ≤ 140737488351232) :
    Calls Tryd.prog 4 #[.string s, .string more] w fun e w' => e = .returned (.bool true) ∧ Bl w w' := by
  by_cases hl : s.size ≤ 500
  · have hd : decide ((500 : Int) < (s.size : Int)) = false := decide_eq_false (by omega)
    by_cases hl2 : more.size ≤ 500
    · have hd2 : decide ((500 : Int) < (more.size : Int)) = false := decide_eq_false (by omega)
      obtain ⟨A1, hA1⟩ : ∃ A1, mkB (autoL s.data.toList).1 = A1 := ⟨_, rfl⟩
      obtain ⟨A2, hA2⟩ : ∃ A2, mkB (autoL s.data.toList).2.1 = A2 := ⟨_, rfl⟩
      obtain ⟨n, hn⟩ : ∃ n, (autoL s.data.toList).2.2 = n := ⟨_, rfl⟩
      have hnl : n ≤ s.size := by rw [← hn, ← size_len]; exact autoL_le _
      have H1 := auto_is s (.tuple #[.string A1, .string A2, .int .i64 (n : Int)]) (by unfold autoV; rw [hA1, hA2, hn]) (by omega)
      obtain ⟨r, hr⟩ : ∃ r, rawL s.data.toList = r := ⟨_, rfl⟩
      have hrl : r ≤ s.size := by rw [← hr, ← size_len]; exact rawL_le _
      have H4 := raw_is s (r : Int) (by rw [hr]) (by omega)
      have hne := autoL_ends s.data.toList
      have hre := rawL_ends s.data.toList
      rw [hn] at hne
      rw [hr] at hre
      by_cases hn0 : 0 < n
      · skip
        have dn : decide ((0 : Int) < (n : Int)) = true := decide_eq_true (by omega)
        obtain ⟨e1, e2, e3, e4, e5⟩ := hne hn0
        obtain ⟨X, hX⟩ : ∃ X, s.extract 0 n ++ more = X := ⟨_, rfl⟩
        obtain ⟨Y, hY⟩ : ∃ Y, s.extract 0 (n - 1) = Y := ⟨_, rfl⟩
        have hXd : autoL X.data.toList = autoL s.data.toList := by rw [← hX, cat_data', extract0]; exact e1 _
        have hYd : (autoL Y.data.toList).2.2 = 0 := by rw [← hY, extract0]; exact e2
        have hXs : X.size ≤ 1000000 := by rw [← size_len, ← hX, cat_data', List.length_append, extract0, List.length_take, size_len, size_len]; omega
        have hYs : Y.size ≤ 1000000 := by rw [← hY, ByteArray.size_extract]; omega
        have H2 := auto_is X (.tuple #[.string A1, .string A2, .int .i64 (n : Int)]) (by unfold autoV; rw [hXd, hA1, hA2, hn]) hXs
        obtain ⟨B1, hB1⟩ : ∃ B1, mkB (autoL Y.data.toList).1 = B1 := ⟨_, rfl⟩
        obtain ⟨B2, hB2⟩ : ∃ B2, mkB (autoL Y.data.toList).2.1 = B2 := ⟨_, rfl⟩
        have H3 := auto_is Y (.tuple #[.string B1, .string B2, .int .i64 0]) (by unfold autoV; rw [hB1, hB2, hYd]; rfl) hYs
        obtain ⟨hz1, hz2⟩ := at_byte s (n - 1) 62 e3
        have e4' : A2.size = n - 2 := by rw [← hA2, mkB_size]; exact e4
        have g1 : ((A2.size : Int) != (n : Int) - 2) = false := bne_eq_false_iff_eq.2 (by omega)
        have t1 : ((n : Int) - 1).toNat = n - 1 := by omega
        clear hXd hYd hB1 hB2 e1 e2 e3 e4 e4'
        clear hne hn hA1 hA2
        by_cases hr0 : 0 < r
        · skip
          have dr : decide ((0 : Int) < (r : Int)) = true := decide_eq_true (by omega)
          obtain ⟨f1, f2, f3, f4⟩ := hre hr0
          obtain ⟨U, hU⟩ : ∃ U, s.extract 0 r ++ more = U := ⟨_, rfl⟩
          obtain ⟨V, hV⟩ : ∃ V, s.extract 0 (r - 1) = V := ⟨_, rfl⟩
          have hUd : rawL U.data.toList = r := by rw [← hU, cat_data', extract0]; exact f1 _
          have hVd : rawL V.data.toList = 0 := by rw [← hV, extract0]; exact f2
          have hUs : U.size ≤ 1000000 := by rw [← size_len, ← hU, cat_data', List.length_append, extract0, List.length_take, size_len, size_len]; omega
          have hVs : V.size ≤ 1000000 := by rw [← hV, ByteArray.size_extract]; omega
          have H5 := raw_is U (r : Int) (by rw [hUd]) hUs
          have H6 := raw_is V 0 (by rw [hVd]; rfl) hVs
          obtain ⟨hy1, hy2⟩ := at_byte s (r - 1) 62 f3
          have hp : 0 < s.size := by omega
          have hy3 : s[0] = 60 := by rw [← headD_at s hp]; exact f4
          have g2 : decide ((s.size : Int) < (r : Int)) = false := decide_eq_false (by omega)
          have t2 : ((r : Int) - 1).toNat = r - 1 := by omega
          clear hUd hVd f1 f2 f3 f4
          clear hre hr
          go_enter Tryd.func4, Tryd.ntmps4
          go_wp2_with fail
          refine (awake_any _ hm).mono ?_
          rintro e w1 ⟨rfl, hc1⟩
          have hb1 := hc1
          clear hc1
          go_wp2_with fail
          refine (H1 _ (hm.bl hb1)).mono ?_
          rintro e w2 ⟨rfl, hc2⟩
          have hb2 := hb1.trans hc2
          clear hc2
          go_wp2_with fail
          refine (H2 _ (hm.bl hb2)).mono ?_
          rintro e w3 ⟨rfl, hc3⟩
          have hb3 := hb2.trans hc3
          clear hc3
          go_wp2_with fail
          refine (H3 _ (hm.bl hb3)).mono ?_
          rintro e w4 ⟨rfl, hc4⟩
          have hb4 := hb3.trans hc4
          clear hc4
          go_wp2_with fail
          refine (H4 _ (hm.bl hb4)).mono ?_
          rintro e w5 ⟨rfl, hc5⟩
          have hb5 := hb4.trans hc5
          clear hc5
          go_wp2_with fail
          refine (H5 _ (hm.bl hb5)).mono ?_
          rintro e w6 ⟨rfl, hc6⟩
          have hb6 := hb5.trans hc6
          clear hc6
          go_wp2_with fail
          refine (H6 _ (hm.bl hb6)).mono ?_
          rintro e w7 ⟨rfl, hc7⟩
          have hb7 := hb6.trans hc7
          clear hc7
          go_wp2
          go_ret
          exact ⟨rfl, hb7⟩
        · skip
          have dr : decide ((0 : Int) < (r : Int)) = false := decide_eq_false (by omega)
          clear hre hr
          go_enter Tryd.func4, Tryd.ntmps4
          go_wp2_with fail
          refine (awake_any _ hm).mono ?_
          rintro e w1 ⟨rfl, hc1⟩
          have hb1 := hc1
          clear hc1
          go_wp2_with fail
          refine (H1 _ (hm.bl hb1)).mono ?_
          rintro e w2 ⟨rfl, hc2⟩
          have hb2 := hb1.trans hc2
          clear hc2
          go_wp2_with fail
          refine (H2 _ (hm.bl hb2)).mono ?_
          rintro e w3 ⟨rfl, hc3⟩
          have hb3 := hb2.trans hc3
          clear hc3
          go_wp2_with fail
          refine (H3 _ (hm.bl hb3)).mono ?_
          rintro e w4 ⟨rfl, hc4⟩
          have hb4 := hb3.trans hc4
          clear hc4
          go_wp2_with fail
          refine (H4 _ (hm.bl hb4)).mono ?_
          rintro e w5 ⟨rfl, hc5⟩
          have hb5 := hb4.trans hc5
          clear hc5
          go_wp2
          go_ret
          exact ⟨rfl, hb5⟩
      · skip
        have dn : decide ((0 : Int) < (n : Int)) = false := decide_eq_false (by omega)
        clear hne hn hA1 hA2
        by_cases hr0 : 0 < r
        · skip
          have dr : decide ((0 : Int) < (r : Int)) = true := decide_eq_true (by omega)
          obtain ⟨f1, f2, f3, f4⟩ := hre hr0
          obtain ⟨U, hU⟩ : ∃ U, s.extract 0 r ++ more = U := ⟨_, rfl⟩
          obtain ⟨V, hV⟩ : ∃ V, s.extract 0 (r - 1) = V := ⟨_, rfl⟩
          have hUd : rawL U.data.toList = r := by rw [← hU, cat_data', extract0]; exact f1 _
          have hVd : rawL V.data.toList = 0 := by rw [← hV, extract0]; exact f2
          have hUs : U.size ≤ 1000000 := by rw [← size_len, ← hU, cat_data', List.length_append, extract0, List.length_take, size_len, size_len]; omega
          have hVs : V.size ≤ 1000000 := by rw [← hV, ByteArray.size_extract]; omega
          have H5 := raw_is U (r : Int) (by rw [hUd]) hUs
          have H6 := raw_is V 0 (by rw [hVd]; rfl) hVs
          obtain ⟨hy1, hy2⟩ := at_byte s (r - 1) 62 f3
          have hp : 0 < s.size := by omega
          have hy3 : s[0] = 60 := by rw [← headD_at s hp]; exact f4
          have g2 : decide ((s.size : Int) < (r : Int)) = false := decide_eq_false (by omega)
          have t2 : ((r : Int) - 1).toNat = r - 1 := by omega
          clear hUd hVd f1 f2 f3 f4
          clear hre hr
          go_enter Tryd.func4, Tryd.ntmps4
          go_wp2_with fail
          refine (awake_any _ hm).mono ?_
          rintro e w1 ⟨rfl, hc1⟩
          have hb1 := hc1
          clear hc1
          go_wp2_with fail
          refine (H1 _ (hm.bl hb1)).mono ?_
          rintro e w2 ⟨rfl, hc2⟩
          have hb2 := hb1.trans hc2
          clear hc2
          go_wp2_with fail
          refine (H4 _ (hm.bl hb2)).mono ?_
          rintro e w3 ⟨rfl, hc3⟩
          have hb3 := hb2.trans hc3
          clear hc3
          go_wp2_with fail
          refine (H5 _ (hm.bl hb3)).mono ?_
          rintro e w4 ⟨rfl, hc4⟩
          have hb4 := hb3.trans hc4
          clear hc4
          go_wp2_with fail
          refine (H6 _ (hm.bl hb4)).mono ?_
          rintro e w5 ⟨rfl, hc5⟩
          have hb5 := hb4.trans hc5
          clear hc5
          go_wp2
          go_ret
          exact ⟨rfl, hb5⟩
        · skip
          have dr : decide ((0 : Int) < (r : Int)) = false := decide_eq_false (by omega)
          clear hre hr
          go_enter Tryd.func4, Tryd.ntmps4
          go_wp2_with fail
          refine (awake_any _ hm).mono ?_
          rintro e w1 ⟨rfl, hc1⟩
          have hb1 := hc1
          clear hc1
          go_wp2_with fail
          refine (H1 _ (hm.bl hb1)).mono ?_
          rintro e w2 ⟨rfl, hc2⟩
          have hb2 := hb1.trans hc2
          clear hc2
          go_wp2_with fail
          refine (H4 _ (hm.bl hb2)).mono ?_
          rintro e w3 ⟨rfl, hc3⟩
          have hb3 := hb2.trans hc3
          clear hc3
          go_wp2
          go_ret
          exact ⟨rfl, hb3⟩
    · have hd2 : decide ((500 : Int) < (more.size : Int)) = true := decide_eq_true (by omega)
      have HA := awake_any w hm
      clear hl hl2
      go_enter Tryd.func4, Tryd.ntmps4
      go_wp2_with fail
      refine HA.mono ?_
      rintro e w1 ⟨rfl, hb1⟩
      go_wp2
      go_ret
      exact ⟨rfl, hb1⟩
  · have hd : decide ((500 : Int) < (s.size : Int)) = true := decide_eq_true (by omega)
    have HA := awake_any w hm
    clear hl
    go_enter Tryd.func4, Tryd.ntmps4
    go_wp2_with fail
    refine HA.mono ?_
    rintro e w1 ⟨rfl, hb1⟩
    go_wp2
    go_ret
    exact ⟨rfl, hb1⟩

end Go.Proofs.YtgamlckdjfjobaaDoor
