/- SpanNone: the walk of the law. -/
import Derived.Test.YtgamlckdjfjobaaDoorAwake
namespace Go.Proofs.YtgamlckdjfjobaaDoor
open Go.RowKit

theorem cat_data (a s : ByteArray) : (a ++ s).data.toList = a.data.toList ++ s.data.toList := by simp
theorem hasPrefix_cons_no (a : UInt8) (l : List UInt8) (b : UInt8) (p : List UInt8) (h : (b == a) = false) : Lib.hasPrefix (a :: l) (b :: p) = false := by
  unfold Lib.hasPrefix; simp [List.isPrefixOf, h]
theorem none_code (l : List UInt8) : codeV (120 :: l) = .tuple #[.string ⟨#[]⟩, .int .i64 0] := codeV_no rfl
theorem none_auto (l : List UInt8) : autoV (120 :: l) = .tuple #[.string ⟨#[]⟩, .string ⟨#[]⟩, .int .i64 0] :=
  autoV_no (by rw [show ((120 :: l).headD 0 == 60) = false from rfl]; simp)
theorem none_raw (l : List UInt8) : rawL (120 :: l) = 0 := by
  have h1 : tagL (120 :: l) = 0 := rfl
  have h2 : ∀ p, Lib.hasPrefix (120 :: l) (60 :: p) = false := fun p => hasPrefix_cons_no _ _ _ _ rfl
  unfold rawL isComment5 isComment6 isDecl
  rw [h1]
  simp only [h2]
  simp
theorem none_run (l : List UInt8) : 1 ≤ runL (120 :: l) := runL_pos _ (by simp)
theorem none_run1 (l : List UInt8) (h : (l.headD 0 == 120) = false) : runL (120 :: l) = 1 := by
  unfold runL
  cases l with
  | nil => rfl
  | cons a l =>
    have : (a == 120) = false := h
    simp [this]

set_option maxRecDepth 100000 in
set_option maxHeartbeats 1000000 in
theorem none_walk (s : ByteArray) (w : World) (hm : MaxAt w) (hs : s.size ≤ 140737488351232) :
    Calls Tryd.prog 7 #[.string s] w fun e w' => e = .returned (.bool true) ∧ Bl w w' := by
  have HA := awake_any w hm
  by_cases hl : s.size ≤ 1000
  · have hd : decide ((1000 : Int) < (s.size : Int)) = false := decide_eq_false (by omega)
    obtain ⟨X, eX⟩ : ∃ X, (⟨#[120]⟩ : ByteArray) ++ s = X := ⟨_, rfl⟩
    have hX : X.data.toList = 120 :: s.data.toList := by rw [← eX, cat_data]; rfl
    have hXs : X.size ≤ 1000000 := by rw [← size_len, hX, List.length_cons, size_len]; omega
    have H1 := code_is X (.tuple #[.string ⟨#[]⟩, .int .i64 0]) (by rw [hX]; exact none_code _) hXs
    have H2 := auto_is X (.tuple #[.string ⟨#[]⟩, .string ⟨#[]⟩, .int .i64 0]) (by rw [hX]; exact none_auto _) hXs
    have H3 := raw_is X 0 (by rw [hX, none_raw]; rfl) hXs
    obtain ⟨n, hn⟩ : ∃ n, runL X.data.toList = n := ⟨_, rfl⟩
    have hn1 : 1 ≤ n := by rw [← hn, hX]; exact none_run _
    have hnl : n ≤ X.size := by rw [← hn, ← size_len]; exact runL_le _
    have H4 := run_isI X n (by rw [hn]) hXs
    have H5 := run_isI ⟨#[]⟩ 0 rfl (by decide)
    have d1 : decide ((1 : Int) ≤ (n : Int)) = true := decide_eq_true (by omega)
    rcases Nat.eq_zero_or_pos s.size with e0 | hp
    · obtain rfl := str_nil e0
      clear hn hX hXs hl
      go_enter Tryd.func7, Tryd.ntmps7
      go_wp2_with fail
      refine HA.mono ?_
      rintro e w1 ⟨rfl, hb1⟩
      go_wp2_with fail
      refine (H1 _ (hm.bl hb1)).mono ?_
      rintro e w2 ⟨rfl, hb2⟩
      have hb12 := hb1.trans hb2
      go_wp2_with fail
      refine (H2 _ (hm.bl hb12)).mono ?_
      rintro e w3 ⟨rfl, hb3⟩
      have hb13 := hb12.trans hb3
      go_wp2_with fail
      refine (H3 _ (hm.bl hb13)).mono ?_
      rintro e w4 ⟨rfl, hb4⟩
      have hb14 := hb13.trans hb4
      go_wp2_with fail
      refine (H4 _).mono ?_
      rintro e w5 ⟨rfl, hb5⟩
      have hb15 := hb14.trans hb5
      go_wp2_with fail
      refine (H5 _).mono ?_
      rintro e w6 ⟨rfl, hb6⟩
      have hb16 := hb15.trans hb6
      go_wp2
      go_ret
      exact ⟨rfl, hb16⟩
    · have e1 := isEmpty_false hp
      have hd0 := headD_at s hp
      have hb0 := eq_of_byte (b := s[0]) (c := 120) 120 rfl
      cases hh : (s.data.toList.headD 0 == 120) with
      | true =>
        have q : ((s[0].toNat : Int) == 120) = true := by rw [hb0, ← hd0, hh]
        clear hn hX hXs hl hd0 hb0 hh
        go_enter Tryd.func7, Tryd.ntmps7
        go_wp2_with fail
        refine HA.mono ?_
        rintro e w1 ⟨rfl, hb1⟩
        go_wp2_with fail
        refine (H1 _ (hm.bl hb1)).mono ?_
        rintro e w2 ⟨rfl, hb2⟩
        have hb12 := hb1.trans hb2
        go_wp2_with fail
        refine (H2 _ (hm.bl hb12)).mono ?_
        rintro e w3 ⟨rfl, hb3⟩
        have hb13 := hb12.trans hb3
        go_wp2_with fail
        refine (H3 _ (hm.bl hb13)).mono ?_
        rintro e w4 ⟨rfl, hb4⟩
        have hb14 := hb13.trans hb4
        go_wp2_with fail
        refine (H4 _).mono ?_
        rintro e w5 ⟨rfl, hb5⟩
        have hb15 := hb14.trans hb5
        go_wp2_with fail
        refine (H5 _).mono ?_
        rintro e w6 ⟨rfl, hb6⟩
        have hb16 := hb15.trans hb6
        go_wp2
        go_ret
        exact ⟨rfl, hb16⟩
      | false =>
        have q : ((s[0].toNat : Int) == 120) = false := by rw [hb0, ← hd0, hh]
        obtain rfl : n = 1 := by rw [← hn, hX]; exact none_run1 _ hh
        clear hn hX hXs hl hd0 hb0 hh
        go_enter Tryd.func7, Tryd.ntmps7
        go_wp2_with fail
        refine HA.mono ?_
        rintro e w1 ⟨rfl, hb1⟩
        go_wp2_with fail
        refine (H1 _ (hm.bl hb1)).mono ?_
        rintro e w2 ⟨rfl, hb2⟩
        have hb12 := hb1.trans hb2
        go_wp2_with fail
        refine (H2 _ (hm.bl hb12)).mono ?_
        rintro e w3 ⟨rfl, hb3⟩
        have hb13 := hb12.trans hb3
        go_wp2_with fail
        refine (H3 _ (hm.bl hb13)).mono ?_
        rintro e w4 ⟨rfl, hb4⟩
        have hb14 := hb13.trans hb4
        go_wp2_with fail
        refine (H4 _).mono ?_
        rintro e w5 ⟨rfl, hb5⟩
        have hb15 := hb14.trans hb5
        go_wp2_with fail
        refine (H5 _).mono ?_
        rintro e w6 ⟨rfl, hb6⟩
        have hb16 := hb15.trans hb6
        go_wp2_with fail
        refine (H4 _).mono ?_
        rintro e w7 ⟨rfl, hb7⟩
        have hb17 := hb16.trans hb7
        go_wp2
        go_ret
        exact ⟨rfl, hb17⟩
  · have hd : decide ((1000 : Int) < (s.size : Int)) = true := decide_eq_true (by omega)
    clear hl
    go_enter Tryd.func7, Tryd.ntmps7
    go_wp2_with fail
    refine HA.mono ?_
    rintro e w1 ⟨rfl, hb1⟩
    go_wp2
    go_ret
    exact ⟨rfl, hb1⟩

end Go.Proofs.YtgamlckdjfjobaaDoor
