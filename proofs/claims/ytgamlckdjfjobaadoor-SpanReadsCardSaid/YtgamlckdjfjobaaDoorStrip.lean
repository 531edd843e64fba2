/- The contract of span.stripped. -/
import Derived.Test.YtgamlckdjfjobaaDoorRun
namespace Go.Proofs.YtgamlckdjfjobaaDoor
open Go.RowKit

def mkB (l : List UInt8) : ByteArray := ⟨l.toArray⟩
theorem mkB_data (l : List UInt8) : (mkB l).data.toList = l := rfl
theorem mkB_size (l : List UInt8) : (mkB l).size = l.length := by simp [mkB, ByteArray.size]
theorem mkB_self (s : ByteArray) : mkB s.data.toList = s := str_mk s
theorem lf_length (l : List UInt8) : (lf l).length = l.length := by simp [lf]
theorem size_len (s : ByteArray) : s.data.toList.length = s.size := by simp

theorem replaceLf_any (s : ByteArray) (w : World) (hm : MaxAt w) (hs : s.size ≤ 1000000) :
    Calls Tryd.prog 34 #[.string s, .string ⟨#[10]⟩, .string ⟨#[32]⟩] w fun e w' => e = .returned (.string (mkB (lf s.data.toList))) ∧ Bl w w' := by
  obtain ⟨m, hm⟩ := hm.out
  refine (Tryd.strings_ReplaceAll s ⟨#[10]⟩ ⟨#[32]⟩ m w (by omega) hm (by decide) ?_).mono ?_
  · have := Lib.countB_le ⟨#[10]⟩ (by decide) s.size s (Nat.le_refl _)
    have h1 : (⟨#[32]⟩ : ByteArray).size = 1 := rfl
    rw [h1]; omega
  · rintro e w' ⟨rfl, hb⟩
    refine ⟨?_, ⟨hb⟩⟩
    have : Lib.replaceAll s.data.toList (⟨#[10]⟩ : ByteArray).data.toList (⟨#[32]⟩ : ByteArray).data.toList = lf s.data.toList := replaceAll_one 10 32 (by decide) _
    rw [this]; rfl

theorem trimBlank_no (t : ByteArray) (w : World) (hs : t.size ≤ 1000000) (h : t.data.toList.any (· != 32) = false) :
    Calls Tryd.prog 35 #[.string t, .string ⟨#[32]⟩] w fun e w' => e = .returned (.string ⟨#[]⟩) ∧ Bl w w' := by
  refine (Tryd.strings_Trim_one t 32 (by decide) w (by omega)).mono ?_
  rintro e w' ⟨rfl, hb⟩
  rw [(trimB_nil 32 t.data.toList).mpr h]
  refine ⟨rfl, ?_⟩
  rcases hb with rfl | rfl
  · exact Bl.refl _
  · exact (Bl.refl _).drew
theorem trimBlank_yes (t : ByteArray) (w : World) (hs : t.size ≤ 1000000) (h : t.data.toList.any (· != 32) = true) :
    Calls Tryd.prog 35 #[.string t, .string ⟨#[32]⟩] w fun e w' => ∃ u : ByteArray, e = .returned (.string u) ∧ 0 < u.size ∧ Bl w w' := by
  refine (Tryd.strings_Trim_one t 32 (by decide) w (by omega)).mono ?_
  rintro e w' ⟨rfl, hb⟩
  refine ⟨_, rfl, ?_, ?_⟩
  · have h1 : Lib.trimB t.data.toList 32 ≠ [] := by
      intro e; rw [trimB_nil] at e; rw [e] at h; cases h
    have := List.length_pos_iff.mpr h1
    simpa [ByteArray.size] using this
  rcases hb with rfl | rfl
  · exact Bl.refl _
  · exact (Bl.refl _).drew

theorem hasPrefix_one (c : UInt8) (l : List UInt8) (h : l ≠ []) : Lib.hasPrefix l [c] = (l.headD 0 == c) := by
  cases l with
  | nil => exact absurd rfl h
  | cons b l =>
    simp [Lib.hasPrefix, List.isPrefixOf]
    rw [Bool.eq_iff_iff]; simp; exact ⟨fun h => h.symm, fun h => h.symm⟩
theorem hasSuffix_one (c : UInt8) (l : List UInt8) (h : l ≠ []) : Lib.hasSuffix l [c] = (l.getLastD 0 == c) := by
  unfold Lib.hasSuffix List.isSuffixOf
  rw [show ([c] : List UInt8).reverse = [c] from rfl]
  have hr : l.reverse ≠ [] := by simpa using h
  have := hasPrefix_one c l.reverse hr
  unfold Lib.hasPrefix at this
  rw [this]
  congr 1
  rw [List.getLastD_eq_getLast?, List.headD_eq_head?_getD, List.head?_reverse]

theorem two_of_blank (l : List UInt8) (h : l.any (· != 32) = true) (h1 : (l.headD 0 == 32) = true) : 2 ≤ l.length := by
  match l with
  | [] => cases h
  | [a] =>
    simp at h h1
    exact absurd h1 h
  | _ :: _ :: _ => simp
theorem extract_mid (T : ByteArray) : T.extract 1 (T.size - 1) = mkB T.data.toList.tail.dropLast := by
  refine str_eq ?_
  rw [Lib.extract_data, mkB_data, List.dropLast_eq_take, List.length_tail, size_len, List.drop_one]

def stripB (s : ByteArray) : ByteArray := mkB (stripL s.data.toList)

set_option maxHeartbeats 400000 in
theorem stripped_any (s : ByteArray) (w : World) (hm : MaxAt w) (hs : s.size ≤ 1000000) :
    Calls Tryd.prog 20 #[.string s] w fun e w' => e = .returned (.string (stripB s)) ∧ Bl w w' := by
  obtain ⟨T, hT⟩ : ∃ T, T = mkB (lf s.data.toList) := ⟨_, rfl⟩
  have hd : T.data.toList = lf s.data.toList := by rw [hT]; rfl
  have hz : T.size ≤ 1000000 := by rw [hT, mkB_size, lf_length, size_len]; exact hs
  have hS : stripB s = if T.data.toList.any (· != 32) && T.data.toList.headD 0 == 32 && T.data.toList.getLastD 0 == 32 then mkB T.data.toList.tail.dropLast else T := by
    rw [hd]
    unfold stripB stripL
    split
    · rfl
    · rw [hT]
  have HR := replaceLf_any s w hm hs
  rw [← hT] at HR
  clear hT hd
  have HS := Lib.hid hS
  clear hS
  cases ha : T.data.toList.any (· != 32) with
  | false =>
    have HA := Lib.hid ha
    clear ha
    go_enter Tryd.func20, Tryd.ntmps20
    go_wp2_with (first | (go_at_call 34; (with_reducible refine HR.mono ?_); rintro e w1 ⟨rfl, hb1⟩) | (go_at_call 35; (with_reducible refine (trimBlank_no _ _ hz HA.out).mono ?_); rintro e w2 ⟨rfl, hb2⟩))
    go_ret
    exact ⟨ret_str (by rw [HS.out, HA.out]; rfl), hb1.trans hb2⟩
  | true =>
    have hne : T.data.toList ≠ [] := by intro e; rw [e] at ha; cases ha
    have P1 := Lib.hid (hasPrefix_one 32 _ hne)
    have P2 := Lib.hid (hasSuffix_one 32 _ hne)
    have HA := Lib.hid ha
    clear ha hne
    cases hp : Lib.hasPrefix T.data.toList [32] with
    | false =>
      go_enter Tryd.func20, Tryd.ntmps20
      go_wp2_with (first | (go_at_call 34; (with_reducible refine HR.mono ?_); rintro e w1 ⟨rfl, hb1⟩) | (go_at_call 35; (with_reducible refine (trimBlank_yes _ _ hz HA.out).mono ?_); rintro e w2 ⟨u, rfl, hu, hb2⟩; have hu2 := isEmpty_false hu) | (go_at_call 18; (with_reducible refine (Tryd.strings_HasPrefix _ _ _).mono ?_); rintro e w' ⟨rfl, rfl⟩))
      go_ret
      exact ⟨ret_str (by rw [HS.out, ← P1.out, hp]; simp), hb1.trans hb2⟩
    | true =>
      cases hq : Lib.hasSuffix T.data.toList [32] with
      | false =>
        go_enter Tryd.func20, Tryd.ntmps20
        go_wp2_with (first | (go_at_call 34; (with_reducible refine HR.mono ?_); rintro e w1 ⟨rfl, hb1⟩) | (go_at_call 35; (with_reducible refine (trimBlank_yes _ _ hz HA.out).mono ?_); rintro e w2 ⟨u, rfl, hu, hb2⟩; have hu2 := isEmpty_false hu) | (go_at_call 18; (with_reducible refine (Tryd.strings_HasPrefix _ _ _).mono ?_); rintro e w' ⟨rfl, rfl⟩) | (go_at_call 36; (with_reducible refine (Tryd.strings_HasSuffix _ _ _ (by omega)).mono ?_); rintro e w' ⟨rfl, rfl⟩))
        go_ret
        exact ⟨ret_str (by rw [HS.out, ← P2.out, hq]; simp), hb1.trans hb2⟩
      | true =>
        have h2 : 2 ≤ T.size := by
          rw [← size_len]; exact two_of_blank _ HA.out (by rw [← P1.out]; exact hp)
        go_enter Tryd.func20, Tryd.ntmps20
        go_wp2_with (first | (go_at_call 34; (with_reducible refine HR.mono ?_); rintro e w1 ⟨rfl, hb1⟩) | (go_at_call 35; (with_reducible refine (trimBlank_yes _ _ hz HA.out).mono ?_); rintro e w2 ⟨u, rfl, hu, hb2⟩; have hu2 := isEmpty_false hu) | (go_at_call 18; (with_reducible refine (Tryd.strings_HasPrefix _ _ _).mono ?_); rintro e w' ⟨rfl, rfl⟩) | (go_at_call 36; (with_reducible refine (Tryd.strings_HasSuffix _ _ _ (by omega)).mono ?_); rintro e w' ⟨rfl, rfl⟩))
        go_ret
        exact ⟨ret_str (by rw [HS.out, HA.out, ← P1.out, ← P2.out, hp, hq]; exact extract_mid T), hb1.trans hb2⟩

end Go.Proofs.YtgamlckdjfjobaaDoor
