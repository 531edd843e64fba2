/- The contract of span.Auto. -/
import Derived.Test.YtgamlckdjfjobaaDoorMail
namespace Go.Proofs.YtgamlckdjfjobaaDoor
open Go.RowKit

/-- What stands ahead of the first ">", behind the first byte. -/
def innerL (l : List UInt8) : List UInt8 := (l.takeWhile (· != 62)).tail
/-- An address, its text, and how long all of it is. -/
def autoL (l : List UInt8) : List UInt8 × List UInt8 × Nat :=
  if l.contains 62 && l.headD 0 == 60 then
    if addressL (innerL l) then (innerL l, innerL l, (l.takeWhile (· != 62)).length + 1)
    else if mailL (innerL l) then ([109, 97, 105, 108, 116, 111, 58] ++ innerL l, innerL l, (l.takeWhile (· != 62)).length + 1)
    else ([], [], 0)
  else ([], [], 0)
def autoV (l : List UInt8) : Value := .tuple #[.string (mkB (autoL l).1), .string (mkB (autoL l).2.1), .int .i64 (autoL l).2.2]

theorem autoV_no {l : List UInt8} (h : (l.contains 62 && l.headD 0 == 60) = false) : autoV l = .tuple #[.string ⟨#[]⟩, .string ⟨#[]⟩, .int .i64 0] := by
  unfold autoV autoL; rw [if_neg (by rw [h]; decide)]; rfl

set_option maxHeartbeats 400000 in
theorem auto_any (s : ByteArray) (w : World) (hm : MaxAt w) (hs : s.size ≤ 1000000) :
    Calls Tryd.prog 12 #[.string s] w fun e w' => e = .returned (autoV s.data.toList) ∧ Bl w w' := by
  cases hc : s.data.toList.contains 62 with
  | false =>
    have HI := fun W => idx_no s 62 62 rfl hc W
    have R := Lib.hid (autoV_no (l := s.data.toList) (by rw [hc]; rfl))
    clear hc
    go_enter Tryd.func12, Tryd.ntmps12
    go_wp2_with (first | (go_at_call 19; (with_reducible refine (HI _).mono ?_); rintro e w' ⟨rfl, rfl⟩))
    go_ret3
    exact ⟨by rw [R.out]; rfl, Bl.refl _⟩
  | true =>
    obtain ⟨k, hk⟩ : ∃ k, (s.data.toList.takeWhile (· != 62)).length = k := ⟨_, rfl⟩
    have HI := fun W => idx_yes s 62 62 rfl k hc hk W
    have hks : k < s.size := by rw [← hk, ← size_len]; exact takeWhile_lt hc
    have hp : 0 < s.size := by omega
    have h0 := headD_at s hp
    have hne := ne_of_byte (b := s[0]) (c := 60) 60 rfl
    cases hh : (s.data.toList.headD 0 == 60) with
    | false =>
      have R := Lib.hid (autoV_no (l := s.data.toList) (by rw [hh]; simp))
      have e1 : ((s[0].toNat : Int) != 60) = true := by rw [hne, ← h0, hh]; rfl
      clear hc hk hh h0 hne
      go_enter Tryd.func12, Tryd.ntmps12
      go_wp2_with (first | (go_at_call 19; (with_reducible refine (HI _).mono ?_); rintro e w' ⟨rfl, rfl⟩))
      go_ret3
      exact ⟨by rw [R.out]; rfl, Bl.refl _⟩
    | true =>
      have e1 : ((s[0].toNat : Int) != 60) = false := by rw [hne, ← h0, hh]; rfl
      have hk1 : 1 ≤ k := by
        rw [← hk]
        have hn : s.data.toList ≠ [] := by intro e; rw [e] at hc; cases hc
        obtain ⟨a, r, e⟩ := List.exists_cons_of_ne_nil hn
        rw [e] at hh ⊢
        have : a = 60 := by simpa using hh
        subst this
        simp
      obtain ⟨T, hT⟩ : ∃ T, s.extract 1 k = T := ⟨_, rfl⟩
      have hTd : innerL s.data.toList = T.data.toList := by
        rw [← hT, Lib.extract_data]
        unfold innerL
        have : s.data.toList.takeWhile (· != 62) = s.data.toList.take k := by rw [← hk, takeWhile_take]
        rw [this, ← List.drop_one, List.drop_take]
      have hTs : T.size ≤ 1000000 := by rw [← hT, ByteArray.size_extract]; omega
      have R := Lib.hid (show autoV s.data.toList = .tuple (if addressL T.data.toList then #[.string T, .string T, .int .i64 ((k + 1 : Nat) : Int)]
          else if mailL T.data.toList then #[.string ((⟨#[109, 97, 105, 108, 116, 111, 58]⟩ : ByteArray) ++ T), .string T, .int .i64 ((k + 1 : Nat) : Int)] else #[.string ⟨#[]⟩, .string ⟨#[]⟩, .int .i64 0]) by
        unfold autoV autoL
        rw [if_pos (by rw [hc, hh]; rfl), hTd, hk]
        split
        · rw [mkB_self]
        · split
          · have : mkB ([109, 97, 105, 108, 116, 111, 58] ++ T.data.toList) = (⟨#[109, 97, 105, 108, 116, 111, 58]⟩ : ByteArray) ++ T := by
              refine str_eq ?_
              simp [mkB]
            rw [this, mkB_self]
          · rfl)
      have HA := fun W hW => address_any T W hW hTs
      have HM := fun W hW => mailbox_any T W hW hTs
      clear hc hk hh h0 hne hTd
      cases ha : addressL T.data.toList with
      | true =>
        rw [ha] at HA
        go_enter Tryd.func12, Tryd.ntmps12
        go_wp2_with (first | (go_at_call 19; (with_reducible refine (HI _).mono ?_); rintro e w' ⟨rfl, rfl⟩) | (go_at_call 21; (with_reducible refine (HA _ hm).mono ?_); rintro e w1 ⟨rfl, hb1⟩))
        go_ret3
        exact ⟨by rw [R.out, ha]; rfl, hb1⟩
      | false =>
        rw [ha] at HA
        cases hb : mailL T.data.toList with
        | true =>
          rw [hb] at HM
          go_enter Tryd.func12, Tryd.ntmps12
          go_wp2_with (first | (go_at_call 19; (with_reducible refine (HI _).mono ?_); rintro e w' ⟨rfl, rfl⟩) | (go_at_call 21; (with_reducible refine (HA _ hm).mono ?_); rintro e w1 ⟨rfl, hb1⟩) | (go_at_call 22; (with_reducible refine (HM _ (hm.bl hb1)).mono ?_); rintro e w2 ⟨rfl, hb2⟩))
          go_ret3
          exact ⟨by rw [R.out, ha, hb]; rfl, hb1.trans hb2⟩
        | false =>
          rw [hb] at HM
          go_enter Tryd.func12, Tryd.ntmps12
          go_wp2_with (first | (go_at_call 19; (with_reducible refine (HI _).mono ?_); rintro e w' ⟨rfl, rfl⟩) | (go_at_call 21; (with_reducible refine (HA _ hm).mono ?_); rintro e w1 ⟨rfl, hb1⟩) | (go_at_call 22; (with_reducible refine (HM _ (hm.bl hb1)).mono ?_); rintro e w2 ⟨rfl, hb2⟩))
          go_ret3
          exact ⟨by rw [R.out, ha, hb]; rfl, hb1.trans hb2⟩

end Go.Proofs.YtgamlckdjfjobaaDoor
