/- SpanMails: the walk of the law. -/
import Derived.Test.YtgamlckdjfjobaaDoorAwake
import Derived.Test.YtgamlckdjfjobaaDoorMails12
import Derived.Test.YtgamlckdjfjobaaDoorCodes
namespace Go.Proofs.YtgamlckdjfjobaaDoor
open Go.RowKit

theorem small_of (A B AB : ByteArray) (e : A ++ B = AB) (h : AB.data.toList.all smallB = true) : Small A.data.toList ∧ Small B.data.toList := by
  rw [List.all_eq_true] at h
  rw [← e, cat_data] at h
  exact ⟨⟨fun b hb => h b (List.mem_append_left _ hb)⟩, ⟨fun b hb => h b (List.mem_append_right _ hb)⟩⟩
theorem size_cat (A B : ByteArray) : (A ++ B).size = A.size + B.size := by simp

set_option maxRecDepth 100000 in
set_option maxHeartbeats 4000000 in
theorem mails_walk (a b : ByteArray) (w : World) (hm : MaxAt w) (hs : a.size ≤ 140737488351232) (hs2 : b.size ≤ 140737488351232) :
    Calls Tryd.prog 8 #[.string a, .string b] w fun e w' => e = .returned (.bool true) ∧ Bl w w' := by
  have HA := awake_any w hm
  rcases Nat.lt_or_ge a.size 2 with h2 | h2
  · have d : decide ((a.size : Int) < 2) = true := decide_eq_true (by omega)
    clear h2
    go_enter Tryd.func8, Tryd.ntmps8
    go_wp2_with fail
    refine HA.mono ?_
    rintro e w1 ⟨rfl, hb1⟩
    go_wp2
    go_ret
    exact ⟨rfl, hb1⟩
  have d1 : decide ((a.size : Int) < 2) = false := decide_eq_false (by omega)
  rcases Nat.lt_or_ge 32 a.size with h32 | h32
  · have d : decide ((32 : Int) < (a.size : Int)) = true := decide_eq_true (by omega)
    clear h2 h32
    go_enter Tryd.func8, Tryd.ntmps8
    go_wp2_with fail
    refine HA.mono ?_
    rintro e w1 ⟨rfl, hb1⟩
    go_wp2
    go_ret
    exact ⟨rfl, hb1⟩
  have d2 : decide ((32 : Int) < (a.size : Int)) = false := decide_eq_false (by omega)
  rcases Nat.eq_zero_or_pos b.size with e0 | hp
  · obtain rfl := str_nil e0
    go_enter Tryd.func8, Tryd.ntmps8
    go_wp2_with fail
    refine HA.mono ?_
    rintro e w1 ⟨rfl, hb1⟩
    go_wp2
    go_ret
    exact ⟨rfl, hb1⟩
  have hz := isEmpty_false hp
  rcases Nat.lt_or_ge 60 b.size with h60 | h60
  · have d : decide ((60 : Int) < (b.size : Int)) = true := decide_eq_true (by omega)
    clear h60
    go_enter Tryd.func8, Tryd.ntmps8
    go_wp2_with fail
    refine HA.mono ?_
    rintro e w1 ⟨rfl, hb1⟩
    go_wp2
    go_ret
    exact ⟨rfl, hb1⟩
  have d3 : decide ((60 : Int) < (b.size : Int)) = false := decide_eq_false (by omega)
  obtain ⟨AB, eAB⟩ : ∃ AB, a ++ b = AB := ⟨_, rfl⟩
  have zAB : AB.size ≤ 100 := by rw [← eAB, size_cat]; omega
  go_enter Tryd.func8, Tryd.ntmps8
  go_wp2_with fail
  refine HA.mono ?_
  rintro e w1 ⟨rfl, hb1⟩
  clear HA
  go_wp2
  go_loopw [6] (fun i wr => ∃ k : Nat, k ≤ AB.size ∧ i = .int .i64 k ∧ Bl w wr ∧ Hid ((AB.data.toList.take k).all smallB = true)) (fun i _ => AB.size - (intOf i).toNat)
  case atStart => exact ⟨0, Nat.zero_le _, rfl, hb1, Lib.hid (by simp)⟩
  case round =>
    clear hb1
    obtain ⟨k, hk, rfl, hb, hall⟩ := hrel
    by_cases hlt : k < AB.size
    · have HK := Lib.hid (take_succ_all AB smallB k hlt)
      by_cases h97 : (AB[k].toNat : Int) < 97
      · have q1 : decide ((AB[k].toNat : Int) < 97) = true := decide_eq_true h97
        clear h97
        go_wp2
        go_ret
        exact ⟨rfl, hb⟩
      · have q1 : decide ((AB[k].toNat : Int) < 97) = false := decide_eq_false h97
        by_cases h122 : 122 < (AB[k].toNat : Int)
        · have q2 : decide (122 < (AB[k].toNat : Int)) = true := decide_eq_true h122
          clear h97 h122
          go_wp2
          go_ret
          exact ⟨rfl, hb⟩
        · have q2 : decide (122 < (AB[k].toNat : Int)) = false := decide_eq_false h122
          have S := Lib.hid (show smallB AB[k] = true by unfold smallB; rw [decide_eq_true (by omega : 97 ≤ AB[k].toNat), decide_eq_true (by omega : AB[k].toNat ≤ 122)]; rfl)
          clear h97 h122
          go_wp2
          go_roundw
          case rel => exact ⟨k + 1, by omega, by go_num, hb, Lib.hid (by rw [HK.out, hall.out, S.out]; rfl)⟩
          case measure => simp [intOf]; omega
    · obtain rfl : k = AB.size := by omega
      have hsm : Small a.data.toList ∧ Small b.data.toList := by
        have h := hall.out
        rw [List.take_of_length_le (by rw [size_len]; omega)] at h
        exact small_of a b AB eAB h
      obtain ⟨ha, hbb⟩ := hsm
      clear hall hk
      obtain ⟨P0, eP0⟩ : ∃ P0, (⟨#[60]⟩ : ByteArray) ++ a = P0 := ⟨_, rfl⟩
      have zP0 : P0.size ≤ 33 := by rw [← eP0, size_cat, show (⟨#[60]⟩ : ByteArray).size = 1 from rfl]; omega
      obtain ⟨P1, eP1⟩ : ∃ P1, P0 ++ (⟨#[64]⟩ : ByteArray) = P1 := ⟨_, rfl⟩
      have zP1 : P1.size ≤ 34 := by rw [← eP1, size_cat, show (⟨#[64]⟩ : ByteArray).size = 1 from rfl]; omega
      obtain ⟨P2, eP2⟩ : ∃ P2, P1 ++ b = P2 := ⟨_, rfl⟩
      have zP2 : P2.size ≤ 94 := by rw [← eP2, size_cat]; omega
      obtain ⟨P3, eP3⟩ : ∃ P3, P2 ++ (⟨#[46]⟩ : ByteArray) = P3 := ⟨_, rfl⟩
      have zP3 : P3.size ≤ 95 := by rw [← eP3, size_cat, show (⟨#[46]⟩ : ByteArray).size = 1 from rfl]; omega
      obtain ⟨P4, eP4⟩ : ∃ P4, P3 ++ a = P4 := ⟨_, rfl⟩
      have zP4 : P4.size ≤ 127 := by rw [← eP4, size_cat]; omega
      obtain ⟨X1, eX1⟩ : ∃ X1, P4 ++ (⟨#[62, 122]⟩ : ByteArray) = X1 := ⟨_, rfl⟩
      have zX1 : X1.size ≤ 129 := by rw [← eX1, size_cat, show (⟨#[62, 122]⟩ : ByteArray).size = 2 from rfl]; omega
      obtain ⟨Q1, eQ1⟩ : ∃ Q1, P0 ++ (⟨#[58]⟩ : ByteArray) = Q1 := ⟨_, rfl⟩
      have zQ1 : Q1.size ≤ 34 := by rw [← eQ1, size_cat, show (⟨#[58]⟩ : ByteArray).size = 1 from rfl]; omega
      obtain ⟨Q2, eQ2⟩ : ∃ Q2, Q1 ++ b = Q2 := ⟨_, rfl⟩
      have zQ2 : Q2.size ≤ 94 := by rw [← eQ2, size_cat]; omega
      obtain ⟨X2, eX2⟩ : ∃ X2, Q2 ++ (⟨#[62, 122]⟩ : ByteArray) = X2 := ⟨_, rfl⟩
      have zX2 : X2.size ≤ 96 := by rw [← eX2, size_cat, show (⟨#[62, 122]⟩ : ByteArray).size = 2 from rfl]; omega
      obtain ⟨R1, eR1⟩ : ∃ R1, P0 ++ (⟨#[32]⟩ : ByteArray) = R1 := ⟨_, rfl⟩
      have zR1 : R1.size ≤ 34 := by rw [← eR1, size_cat, show (⟨#[32]⟩ : ByteArray).size = 1 from rfl]; omega
      obtain ⟨R2, eR2⟩ : ∃ R2, R1 ++ b = R2 := ⟨_, rfl⟩
      have zR2 : R2.size ≤ 94 := by rw [← eR2, size_cat]; omega
      obtain ⟨X3, eX3⟩ : ∃ X3, R2 ++ (⟨#[62]⟩ : ByteArray) = X3 := ⟨_, rfl⟩
      have zX3 : X3.size ≤ 95 := by rw [← eX3, size_cat, show (⟨#[62]⟩ : ByteArray).size = 1 from rfl]; omega
      obtain ⟨Y1, eY1⟩ : ∃ Y1, a ++ (⟨#[64]⟩ : ByteArray) = Y1 := ⟨_, rfl⟩
      have zY1 : Y1.size ≤ 33 := by rw [← eY1, size_cat, show (⟨#[64]⟩ : ByteArray).size = 1 from rfl]; omega
      obtain ⟨Y2, eY2⟩ : ∃ Y2, Y1 ++ b = Y2 := ⟨_, rfl⟩
      have zY2 : Y2.size ≤ 93 := by rw [← eY2, size_cat]; omega
      obtain ⟨Y3, eY3⟩ : ∃ Y3, Y2 ++ (⟨#[46]⟩ : ByteArray) = Y3 := ⟨_, rfl⟩
      have zY3 : Y3.size ≤ 94 := by rw [← eY3, size_cat, show (⟨#[46]⟩ : ByteArray).size = 1 from rfl]; omega
      obtain ⟨Y, eY⟩ : ∃ Y, Y3 ++ a = Y := ⟨_, rfl⟩
      have zY : Y.size ≤ 126 := by rw [← eY, size_cat]; omega
      obtain ⟨M, eM⟩ : ∃ M, (⟨#[109, 97, 105, 108, 116, 111, 58]⟩ : ByteArray) ++ Y = M := ⟨_, rfl⟩
      have zM : M.size ≤ 133 := by rw [← eM, size_cat, show (⟨#[109, 97, 105, 108, 116, 111, 58]⟩ : ByteArray).size = 7 from rfl]; omega
      obtain ⟨U1, eU1⟩ : ∃ U1, a ++ (⟨#[58]⟩ : ByteArray) = U1 := ⟨_, rfl⟩
      have zU1 : U1.size ≤ 33 := by rw [← eU1, size_cat, show (⟨#[58]⟩ : ByteArray).size = 1 from rfl]; omega
      obtain ⟨U, eU⟩ : ∃ U, U1 ++ b = U := ⟨_, rfl⟩
      have zU : U.size ≤ 93 := by rw [← eU, size_cat]; omega
      have dY : Y.data.toList = a.data.toList ++ 64 :: (b.data.toList ++ 46 :: a.data.toList) := by rw [← eY, ← eY3, ← eY2, ← eY1]; simp only [cat_data]; simp
      have dU : U.data.toList = a.data.toList ++ 58 :: b.data.toList := by rw [← eU, ← eU1]; simp only [cat_data]; simp
      have dX1 : X1.data.toList = (60 :: (a.data.toList ++ 64 :: (b.data.toList ++ 46 :: a.data.toList))) ++ 62 :: [122] := by rw [← eX1, ← eP4, ← eP3, ← eP2, ← eP1, ← eP0]; simp only [cat_data]; simp
      have dX2 : X2.data.toList = (60 :: (a.data.toList ++ 58 :: b.data.toList)) ++ 62 :: [122] := by rw [← eX2, ← eQ2, ← eQ1, ← eP0]; simp only [cat_data]; simp
      have dX3 : X3.data.toList = (60 :: (a.data.toList ++ 32 :: b.data.toList)) ++ 62 :: [] := by rw [← eX3, ← eR2, ← eR1, ← eP0]; simp only [cat_data]; simp
      have l1 : 2 ≤ a.data.toList.length := by rw [size_len]; exact h2
      have l2 : a.data.toList.length ≤ 32 := by rw [size_len]; exact h32
      have l3 : 1 ≤ b.data.toList.length := by rw [size_len]; exact hp
      have l4 : b.data.toList.length ≤ 60 := by rw [size_len]; exact h60
      have v1 : autoV X1.data.toList = .tuple #[.string M, .string Y, .int .i64 ((Y.size : Int) + 2)] := by
        unfold autoV
        rw [dX1, mail_auto _ _ ha hbb l1 l2 l3 l4, ← dY, mkB_self]
        have e1 : mkB ([109, 97, 105, 108, 116, 111, 58] ++ Y.data.toList) = M := by rw [← eM]; refine str_eq ?_; rw [cat_data]; rfl
        rw [e1, size_len]; simp
      have v2 : autoV X2.data.toList = .tuple #[.string U, .string U, .int .i64 ((U.size : Int) + 2)] := by
        unfold autoV
        rw [dX2, address_auto _ _ ha hbb l1 l2, ← dU, mkB_self, size_len]; simp
      have v3 : autoV X3.data.toList = .tuple #[.string ⟨#[]⟩, .string ⟨#[]⟩, .int .i64 0] := by
        unfold autoV
        rw [dX3, blank_auto _ _ ha hbb]; rfl
      have H1 := auto_is X1 _ v1 (by omega)
      have H2 := auto_is X2 _ v2 (by omega)
      have H3 := auto_is X3 _ v3 (by omega)
      have H4 := raw_is X3 ((a.size : Int) + (b.size : Int) + 3) (by rw [dX3, blank_raw _ _ ha hbb (by omega) l3, size_len, size_len]; omega) (by omega)
      clear dY dU dX1 dX2 dX3 v1 v2 v3 ha hbb l1 l2 l3 l4
      go_wp2_with fail
      refine (H1 _ (hm.bl hb)).mono ?_
      rintro e w5 ⟨rfl, hc1⟩
      have hb1 := hb.trans hc1
      go_wp2_with fail
      refine (H2 _ (hm.bl hb1)).mono ?_
      rintro e w6 ⟨rfl, hc2⟩
      have hb2 := hb1.trans hc2
      go_wp2_with fail
      refine (H3 _ (hm.bl hb2)).mono ?_
      rintro e w7 ⟨rfl, hc3⟩
      have hb3 := hb2.trans hc3
      go_wp2_with fail
      refine (H4 _ (hm.bl hb3)).mono ?_
      rintro e w8 ⟨rfl, hc4⟩
      have hb4 := hb3.trans hc4
      clear hc1 hc2 hc3 hc4 H1 H2 H3 H4 hb hb1 hb2 hb3
      go_wp2
      go_ret
      exact ⟨by simp, hb4⟩

end Go.Proofs.YtgamlckdjfjobaaDoor
