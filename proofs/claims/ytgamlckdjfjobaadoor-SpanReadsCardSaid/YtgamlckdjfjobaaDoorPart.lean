/- Contracts of span.part. -/
import Derived.Test.YtgamlckdjfjobaaDoorFns
namespace Go.Proofs.YtgamlckdjfjobaaDoor
open Go.RowKit

theorem toList_eq (s : ByteArray) : s.toList = s.data.toList := ByteArray.toList_eq s
theorem isEmpty_false {s : ByteArray} (h : 0 < s.size) : s.toList.isEmpty = false := by
  rw [toList_eq, List.isEmpty_eq_false_iff]
  intro e
  have h2 : s.data.toList.length = 0 := by rw [e]; rfl
  have h3 : s.size = s.data.toList.length := by simp
  omega
theorem data_isEmpty_false {s : ByteArray} (h : 0 < s.size) : s.data.toList.isEmpty = false := by
  rw [← toList_eq]; exact isEmpty_false h
theorem str_nil {s : ByteArray} (h : s.size = 0) : s = ⟨#[]⟩ := by
  obtain ⟨⟨l⟩⟩ := s
  have : l = [] := List.eq_nil_of_length_eq_zero h
  rw [this]
theorem headD_at (s : ByteArray) (h : 0 < s.size) : s.data.toList.headD 0 = s[0] := by
  obtain ⟨⟨l⟩⟩ := s
  cases l with
  | nil => exact absurd h (by decide)
  | cons a l => rfl
theorem getLastD_at (s : ByteArray) (h : 0 < s.size) : s.data.toList.getLastD 0 = s[s.size - 1] := by
  obtain ⟨⟨l⟩⟩ := s
  show l.getLastD 0 = l[l.length - 1]'(by have : 0 < l.length := h; omega)
  cases l with
  | nil => exact absurd h (by decide)
  | cons a l => rw [List.getLastD_eq_getLast?, List.getLast?_eq_getElem?, List.getElem?_eq_getElem (by simp)]; rfl
theorem ne_of_byte {b c : UInt8} (n : Int) (hn : (c.toNat : Int) = n) : ((b.toNat : Int) != n) = !(b == c) := by
  subst hn
  by_cases h : b = c
  · subst h; simp
  · have h1 : (b == c) = false := by simpa using h
    rw [h1]
    have h2 : (b.toNat : Int) ≠ (c.toNat : Int) := fun e => h (UInt8.toNat_inj.mp (Int.ofNat.inj e))
    simpa using h2
theorem eq_of_byte {b c : UInt8} (n : Int) (hn : (c.toNat : Int) = n) : ((b.toNat : Int) == n) = (b == c) := by
  have := ne_of_byte (b := b) n hn
  rw [bne] at this
  exact Bool.not_inj this

/-- May a text stand between two dots? -/
def partB (l : List UInt8) : Bool := !l.isEmpty && decide (l.length ≤ 63) && allL l (wordB [45]) && !(l.headD 0 == 45) && !(l.getLastD 0 == 45)

set_option maxHeartbeats 400000 in
theorem part_any (s : ByteArray) (w : World) (hs : s.size ≤ 140737488351232) :
    Calls Tryd.prog 42 #[.string s] w fun e w' => e = .returned (.bool (partB s.data.toList)) ∧ Bl w w' := by
  have eg := enters_of Tryd.func65 (by kernel_rfl) rfl
  have hl : s.data.toList.length = s.size := by simp
  by_cases h0 : s.size = 0
  · obtain rfl := str_nil h0
    go_enter Tryd.func42, Tryd.ntmps42
    go_wp2
    go_ret
    exact ⟨rfl, Bl.refl _⟩
  · have hp : 0 < s.size := by omega
    have E0 := Lib.hid (data_isEmpty_false hp)
    have e1 : s.toList.isEmpty = false := isEmpty_false hp
    have L := Lib.hid hl
    clear hl h0
    by_cases h1 : s.size ≤ 63
    · have e2 : decide ((s.size : Int) ≤ 63) = true := decide_eq_true (by omega)
      have H3 := Lib.hid (ne_of_byte (b := s[0]) (c := 45) 45 rfl)
      have H4 := Lib.hid (ne_of_byte (b := s[s.size - 1]) (c := 45) 45 rfl)
      have G3 := Lib.hid (headD_at s hp)
      have G4 := Lib.hid (getLastD_at s hp)
      cases ha : allL s.data.toList (wordB [45]) with
      | false =>
        go_enter Tryd.func42, Tryd.ntmps42
        go_wp2_with (first | (go_at_call 39; (with_reducible refine (word_any _ _).mono ?_); rintro e w' ⟨rfl, rfl⟩) | (go_at_call 38; (refine (all_any _ _ _ (wordB [45]) _ hs (fnB_word ⟨#[45]⟩ _ _ (by simp)) eg).mono ?_); rintro e w' ⟨rfl, rfl⟩))
        go_ret
        exact ⟨ret_bool (by unfold partB; rw [ha]; simp), (Bl.refl _).alloc _⟩
      | true =>
        cases h3 : ((s[0].toNat : Int) != 45) with
        | true =>
          cases h4 : ((s[s.size - 1].toNat : Int) != 45) with
          | true =>
            go_enter Tryd.func42, Tryd.ntmps42
            go_wp2_with (first | (go_at_call 39; (with_reducible refine (word_any _ _).mono ?_); rintro e w' ⟨rfl, rfl⟩) | (go_at_call 38; (refine (all_any _ _ _ (wordB [45]) _ hs (fnB_word ⟨#[45]⟩ _ _ (by simp)) eg).mono ?_); rintro e w' ⟨rfl, rfl⟩))
            go_ret
            exact ⟨ret_bool (by unfold partB; rw [ha, E0.out, G3.out, G4.out, ← H3.out, ← H4.out, h3, h4, L.out, decide_eq_true h1]; rfl), (Bl.refl _).alloc _⟩
          | false =>
            go_enter Tryd.func42, Tryd.ntmps42
            go_wp2_with (first | (go_at_call 39; (with_reducible refine (word_any _ _).mono ?_); rintro e w' ⟨rfl, rfl⟩) | (go_at_call 38; (refine (all_any _ _ _ (wordB [45]) _ hs (fnB_word ⟨#[45]⟩ _ _ (by simp)) eg).mono ?_); rintro e w' ⟨rfl, rfl⟩))
            go_ret
            exact ⟨ret_bool (by unfold partB; rw [G4.out, ← H4.out, h4]; simp), (Bl.refl _).alloc _⟩
        | false =>
          go_enter Tryd.func42, Tryd.ntmps42
          go_wp2_with (first | (go_at_call 39; (with_reducible refine (word_any _ _).mono ?_); rintro e w' ⟨rfl, rfl⟩) | (go_at_call 38; (refine (all_any _ _ _ (wordB [45]) _ hs (fnB_word ⟨#[45]⟩ _ _ (by simp)) eg).mono ?_); rintro e w' ⟨rfl, rfl⟩))
          go_ret
          exact ⟨ret_bool (by unfold partB; rw [G3.out, ← H3.out, h3]; simp), (Bl.refl _).alloc _⟩
    · have e2 : decide ((s.size : Int) ≤ 63) = false := decide_eq_false (by omega)
      go_enter Tryd.func42, Tryd.ntmps42
      go_wp2
      go_ret
      refine ⟨ret_bool ?_, Bl.refl _⟩
      unfold partB; rw [L.out, decide_eq_false h1]; simp

end Go.Proofs.YtgamlckdjfjobaaDoor
