/- The scanner's attributes. -/
import Derived.Test.YtgamlckdjfjobaaDoorScan3
namespace Go.Proofs.YtgamlckdjfjobaaDoor
open Go.RowKit

/-- All attributes: are they whole, and what is left. -/
def attrsL : Nat → List UInt8 → Bool × List UInt8
  | 0, l => (true, l)
  | f + 1, l => if (attributeL l).1 && (attributeL l).2.1 then attrsL f (attributeL l).2.2 else (attributeL l).2
def attrsOk (t : ByteArray) : Bool := (attrsL (t.size + 1) t.data.toList).1
def attrsT (t : ByteArray) : ByteArray := mkB (attrsL (t.size + 1) t.data.toList).2

theorem valueL_le (l : List UInt8) : (valueL l).2.length ≤ l.length := by
  have hd : ∀ (p : UInt8 → Bool) (m : List UInt8), (m.dropWhile p).length ≤ m.length := fun p m => (List.dropWhile_sublist _).length_le
  have ht : l.tail.length ≤ l.length := by rw [List.length_tail]; omega
  unfold valueL
  split
  · split
    · have := hd (· != 34) l.tail; simp only [List.length_tail] at *; omega
    · exact ht
  · split
    · split
      · have := hd (· != 39) l.tail; simp only [List.length_tail] at *; omega
      · exact ht
    · exact hd _ _
theorem attributeL_lt (l : List UInt8) (h : (attributeL l).1 = true) : (attributeL l).2.2.length < l.length := by
  have hd : ∀ (p : UInt8 → Bool) (m : List UInt8), (m.dropWhile p).length ≤ m.length := fun p m => (List.dropWhile_sublist _).length_le
  unfold attributeL at *
  split
  · rename_i h1
    have a1 := hd laterB (whiteL l)
    split
    · have a2 := valueL_le (whiteL (whiteL ((whiteL l).dropWhile laterB)).tail)
      have a3 := cutL_le whiteS (whiteL ((whiteL l).dropWhile laterB)).tail
      have a4 := cutL_le whiteS ((whiteL l).dropWhile laterB)
      simp only [List.length_tail, whiteL] at *
      omega
    · simp only []; omega
  · rename_i h1
    rw [if_neg h1] at h; cases h

set_option maxHeartbeats 1000000 in
theorem attributes_any (w0 w : World) (g : Nat) (t : ByteArray) (hs : t.size ≤ 1000000) (hI : St w0 w g t) :
    Calls Tryd.prog 47 #[.pointer (some ⟨g, 0, none⟩), .func (.func 48) #[.pointer (some ⟨g, 0, none⟩)] #[]] w fun e w' =>
      e = .returned (.bool (attrsOk t)) ∧ St w0 w' g (attrsT t) := by
  have eg := enters_of Tryd.func48 (by kernel_rfl) rfl
  go_enter Tryd.func47, Tryd.ntmps47
  go_wp2
  go_loopg [] (t.size + 1) (fun f wr => ∃ u : ByteArray, u.size < f ∧ u.size ≤ t.size ∧ St w0 wr g u ∧ Hid (attrsL (t.size + 1) t.data.toList = attrsL f u.data.toList))
  case atStart => exact ⟨t, by omega, Nat.le_refl _, hI, Lib.hid rfl⟩
  case round =>
    obtain ⟨u, hu, hut, hS, hrel⟩ := hrel
    cases gk with
    | zero => omega
    | succ f =>
      have HA := attribute_any w0 wr g u (by omega) hS
      obtain ⟨i, hi⟩ : ∃ i, attrIs u = i := ⟨_, rfl⟩
      obtain ⟨o, ho⟩ : ∃ o, attrWhole u = o := ⟨_, rfl⟩
      have R := Lib.hid (show attrsL (f + 1) u.data.toList = if i && o then attrsL f (attrT u).data.toList else (o, (attrT u).data.toList) by
        rw [attrsL, show (attributeL u.data.toList).1 = i from hi, show (attributeL u.data.toList).2.1 = o from ho]
        have : (attributeL u.data.toList).2 = (o, (attrT u).data.toList) := by rw [← ho]; rfl
        rw [this])
      have hlt : i = true → (attrT u).size < u.size := by
        intro e; rw [← hi] at e
        have := attributeL_lt u.data.toList e
        unfold attrT; rw [mkB_size, ← size_len]; exact this
      rw [hi, ho] at HA
      clear hi ho
      obtain ⟨v, hv⟩ : ∃ v, attrT u = v := ⟨_, rfl⟩
      rw [hv] at HA R hlt
      clear hv
      have LT := Lib.hid hlt
      clear hlt
      cases i with
      | false =>
        go_wp2_with fail
        refine HA.mono ?_
        rintro e w1 ⟨rfl, hS1⟩
        go_wp2
        go_ret
        have e1 : attrsL (t.size + 1) t.data.toList = (o, v.data.toList) := by rw [hrel.out, R.out]; rfl
        exact ⟨ret_bool (by unfold attrsOk; rw [e1]), by unfold attrsT; rw [e1, mkB_self]; exact hS1⟩
      | true =>
        cases o with
        | false =>
          go_wp2_with fail
          refine HA.mono ?_
          rintro e w1 ⟨rfl, hS1⟩
          go_wp2
          go_ret
          have e1 : attrsL (t.size + 1) t.data.toList = (false, v.data.toList) := by rw [hrel.out, R.out]; rfl
          exact ⟨ret_bool (by unfold attrsOk; rw [e1]), by unfold attrsT; rw [e1, mkB_self]; exact hS1⟩
        | true =>
          go_wp2_with fail
          refine HA.mono ?_
          rintro e w1 ⟨rfl, hS1⟩
          go_wp2
          go_roundg f
          case rel => exact ⟨v, by have := LT.out (by trivial); omega, by have := LT.out (by trivial); omega, hS1, Lib.hid (by rw [hrel.out, R.out]; rfl)⟩
          case measure => omega

end Go.Proofs.YtgamlckdjfjobaaDoor
