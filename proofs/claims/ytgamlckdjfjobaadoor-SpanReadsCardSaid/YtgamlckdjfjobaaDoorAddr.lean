/- The contracts of span.address. -/
import Derived.Test.YtgamlckdjfjobaaDoorCode
namespace Go.Proofs.YtgamlckdjfjobaaDoor
open Go.RowKit

def headP (c : UInt8) (s : ByteArray) : ByteArray := mkB (s.data.toList.takeWhile (· != c))
def tailP (c : UInt8) (s : ByteArray) : ByteArray := mkB (s.data.toList.dropWhile (· != c)).tail

theorem cut_yes (s p : ByteArray) (c : UInt8) (hp : p = ⟨#[c]⟩) (h : s.data.toList.contains c = true) (w : World) (hm : MaxAt w) (hs : s.size ≤ 1000000) :
    Calls Tryd.prog 37 #[.string s, .string p] w fun e w' => e = .returned (.tuple #[.string (headP c s), .string (tailP c s), .bool true]) ∧ Bl w w' := by
  subst hp
  obtain ⟨m, hm⟩ := hm.out
  refine (Tryd.strings_Cut s ⟨#[c]⟩ m w (by omega) hm).mono ?_
  rintro e w' ⟨rfl, hb⟩
  refine ⟨?_, Bl.of_drewN hb⟩
  have e1 : Lib.cut s.data.toList (⟨#[c]⟩ : ByteArray).data.toList = (s.data.toList.takeWhile (· != c), (s.data.toList.dropWhile (· != c)).tail, true) := by
    show Lib.cut s.data.toList [c] = _
    rw [cut_one, if_pos h]
  rw [e1]; rfl
theorem cut_no (s p : ByteArray) (c : UInt8) (hp : p = ⟨#[c]⟩) (h : s.data.toList.contains c = false) (w : World) (hm : MaxAt w) (hs : s.size ≤ 1000000) :
    Calls Tryd.prog 37 #[.string s, .string p] w fun e w' => e = .returned (.tuple #[.string s, .string ⟨#[]⟩, .bool false]) ∧ Bl w w' := by
  subst hp
  obtain ⟨m, hm⟩ := hm.out
  refine (Tryd.strings_Cut s ⟨#[c]⟩ m w (by omega) hm).mono ?_
  rintro e w' ⟨rfl, hb⟩
  refine ⟨?_, Bl.of_drewN hb⟩
  have e1 : Lib.cut s.data.toList (⟨#[c]⟩ : ByteArray).data.toList = (s.data.toList, [], false) := by
    show Lib.cut s.data.toList [c] = _
    rw [cut_one, if_neg (by rw [h]; decide)]
  rw [e1]

/-- Is a text an address? -/
def addressL (l : List UInt8) : Bool :=
  l.contains 58 && (decide (2 ≤ (l.takeWhile (· != 58)).length) && decide ((l.takeWhile (· != 58)).length ≤ 32) && letterI ((l.takeWhile (· != 58)).headD 0).toNat
    && allL (l.takeWhile (· != 58)) (wordB [43, 46, 45]) && allL (l.dropWhile (· != 58)).tail restB)

set_option maxHeartbeats 400000 in
theorem address_any (s : ByteArray) (w : World) (hm : MaxAt w) (hs : s.size ≤ 1000000) :
    Calls Tryd.prog 21 #[.string s] w fun e w' => e = .returned (.bool (addressL s.data.toList)) ∧ Bl w w' := by
  have eg := enters_of Tryd.func65 (by kernel_rfl) rfl
  have eg2 := enters_of Tryd.func40 (by kernel_rfl) rfl
  cases hc : s.data.toList.contains 58 with
  | false =>
    have HC := cut_no s ⟨#[58]⟩ 58 rfl hc w hm hs
    have R := Lib.hid (show addressL s.data.toList = false by unfold addressL; rw [hc]; rfl)
    clear hc
    go_enter Tryd.func21, Tryd.ntmps21
    go_wp2_with (first | (go_at_call 37; (with_reducible refine HC.mono ?_); rintro e w1 ⟨rfl, hb1⟩))
    go_ret
    exact ⟨ret_bool (by rw [R.out]), hb1⟩
  | true =>
    have HC0 := cut_yes s ⟨#[58]⟩ 58 rfl hc w hm hs
    obtain ⟨A, hA⟩ : ∃ A, headP 58 s = A := ⟨_, rfl⟩
    obtain ⟨B, hB⟩ : ∃ B, tailP 58 s = B := ⟨_, rfl⟩
    rw [hA, hB] at HC0
    have HC := HC0
    clear HC0
    have hAd : s.data.toList.takeWhile (· != 58) = A.data.toList := by rw [← hA]; rfl
    have hBd : (s.data.toList.dropWhile (· != 58)).tail = B.data.toList := by rw [← hB]; rfl
    have hAs : A.size ≤ 1000000 := by rw [← size_len, ← hAd]; have := (List.takeWhile_sublist (· != (58 : UInt8)) (l := s.data.toList)).length_le; rw [size_len] at this; omega
    have hBs : B.size ≤ 1000000 := by
      rw [← size_len, ← hBd, List.length_tail]; have := (List.dropWhile_sublist (· != (58 : UInt8)) (l := s.data.toList)).length_le; rw [size_len] at this; omega
    have R := Lib.hid (show addressL s.data.toList = (decide (2 ≤ A.size) && decide (A.size ≤ 32) && letterI (A.data.toList.headD 0).toNat && allL A.data.toList (wordB [43, 46, 45]) && allL B.data.toList restB) by
      unfold addressL; rw [hc, hAd, hBd, size_len]; rfl)
    clear hc hA hB hAd hBd
    by_cases h2 : 2 ≤ A.size
    · by_cases h32 : A.size ≤ 32
      · have hp : 0 < A.size := by omega
        have c2 : decide ((A.size : Int) < 2) = false := decide_eq_false (by omega)
        have c32 : decide ((32 : Int) < (A.size : Int)) = false := decide_eq_false (by omega)
        have d2 := Lib.hid (decide_eq_true h2)
        have d32 := Lib.hid (decide_eq_true h32)
        have G := Lib.hid (headD_at A hp)
        have b0 : (0 : Int) ≤ (A[0].toNat : Int) := by omega
        have b1 : (A[0].toNat : Int) < 256 := by have := A[0].toNat_lt; omega
        cases hl : letterI (A[0].toNat : Int) with
        | false =>
          go_enter Tryd.func21, Tryd.ntmps21
          go_wp2_with (first | (go_at_call 37; (with_reducible refine HC.mono ?_); rintro e w1 ⟨rfl, hb1⟩) | (go_at_call 26; (with_reducible refine (letter_any _ b0 b1 _).mono ?_); rintro e w' ⟨rfl, rfl⟩))
          go_ret
          exact ⟨ret_bool (by rw [R.out, G.out, hl]; simp), hb1⟩
        | true =>
          have D := Lib.hid (show (letterI (A.data.toList.headD 0).toNat) = true by rw [G.out]; exact hl)
          cases ha : allL A.data.toList (wordB [43, 46, 45]) with
          | false =>
            go_enter Tryd.func21, Tryd.ntmps21
            go_wp2_with (first | (go_at_call 37; (with_reducible refine HC.mono ?_); rintro e w1 ⟨rfl, hb1⟩) | (go_at_call 26; (with_reducible refine (letter_any _ b0 b1 _).mono ?_); rintro e w' ⟨rfl, rfl⟩) | (go_at_call 39; (with_reducible refine (word_any _ _).mono ?_); rintro e w' ⟨rfl, rfl⟩) | (go_at_call 38; (refine (all_any _ _ _ (wordB [43, 46, 45]) _ (by omega) (fnB_word ⟨#[43, 46, 45]⟩ _ _ (by simp)) eg).mono ?_); rintro e w' ⟨rfl, rfl⟩))
            go_ret
            exact ⟨ret_bool (by rw [R.out, ha]; simp), hb1.alloc _⟩
          | true =>
            go_enter Tryd.func21, Tryd.ntmps21
            go_wp2_with (first | (go_at_call 37; (with_reducible refine HC.mono ?_); rintro e w1 ⟨rfl, hb1⟩) | (go_at_call 26; (with_reducible refine (letter_any _ b0 b1 _).mono ?_); rintro e w' ⟨rfl, rfl⟩) | (go_at_call 39; (with_reducible refine (word_any _ _).mono ?_); rintro e w' ⟨rfl, rfl⟩) | (go_at_call_of 38 (Value.string A); (refine (all_any _ _ _ (wordB [43, 46, 45]) _ (by omega) (fnB_word ⟨#[43, 46, 45]⟩ _ _ (by simp)) eg).mono ?_); rintro e w' ⟨rfl, rfl⟩) | (go_at_call 38; (refine (all_any _ _ _ restB _ (by omega) (fnB_rest _) eg2).mono ?_); rintro e w' ⟨rfl, rfl⟩))
            go_ret
            exact ⟨ret_bool (by rw [R.out, d2.out, d32.out, D.out, ha]; rfl), hb1.alloc _⟩
      · have c2 : decide ((A.size : Int) < 2) = false := decide_eq_false (by omega)
        have c32 : decide ((32 : Int) < (A.size : Int)) = true := decide_eq_true (by omega)
        have R2 := Lib.hid (decide_eq_false h32)
        clear h32
        go_enter Tryd.func21, Tryd.ntmps21
        go_wp2_with (first | (go_at_call 37; (with_reducible refine HC.mono ?_); rintro e w1 ⟨rfl, hb1⟩))
        go_ret
        exact ⟨ret_bool (by rw [R.out, R2.out]; simp), hb1⟩
    · have c2 : decide ((A.size : Int) < 2) = true := decide_eq_true (by omega)
      have R2 := Lib.hid (decide_eq_false h2)
      clear h2
      go_enter Tryd.func21, Tryd.ntmps21
      go_wp2_with (first | (go_at_call 37; (with_reducible refine HC.mono ?_); rintro e w1 ⟨rfl, hb1⟩))
      go_ret
      exact ⟨ret_bool (by rw [R.out, R2.out]; simp), hb1⟩

end Go.Proofs.YtgamlckdjfjobaaDoor
