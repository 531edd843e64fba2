/- Contracts of span.word, its closure, address's closure, and span.all at any closure that only reads. -/
import Derived.Test.YtgamlckdjfjobaaDoorKit
import Derived.Test.YtgamlckdjfjobaaDoorBase
import Derived.Test.YtgamlckdjfjobaaDoorShelf
namespace Go.Proofs.YtgamlckdjfjobaaDoor
open Go.RowKit

/-- What a closure of span.word says of a byte. -/
def wordB (more : List UInt8) (b : UInt8) : Bool := letterI (b.toNat : Int) || digitI (b.toNat : Int) || more.contains b

theorem indexByte_ge (l : List UInt8) (c : UInt8) : decide (0 ≤ Lib.indexByte l c) = l.contains c := by
  induction l with
  | nil => rfl
  | cons b l ih =>
    have hge := Lib.indexByte_ge l c
    rw [List.contains_cons, ← ih, Lib.indexByte]
    by_cases hb : b = c
    · subst hb; simp
    · have h1 : (b == c) = false := by simpa using hb
      have h2 : (c == b) = false := by simpa using fun h => hb h.symm
      rw [h1, h2]
      simp
      by_cases h3 : Lib.indexByte l c = -1
      · simp [h3]
      · simp [h3]; omega

abbrev encB (b : UInt8) : Value := .int .u8 (b.toNat : Int)

set_option maxHeartbeats 400000 in
theorem word_fn (more : ByteArray) (a : Addr) (b : UInt8) (w : World) (hc : w.cell? a = some (.string more)) :
    Calls Tryd.prog 65 #[encB b, .pointer (some a)] w fun e w' => e = .returned (.bool (wordB more.data.toList b)) ∧ w = w' := by
  unfold encB wordB
  rw [← indexByte_ge]
  have h0 : (0 : Int) ≤ (b.toNat : Int) := by omega
  have h1 : (b.toNat : Int) < 256 := by have := b.toNat_lt; omega
  have e1 : ((b.toNat : Int)).toNat.toUInt8 = b := by simp
  cases hl : letterI (b.toNat : Int) with
  | true =>
    go_enter Tryd.func65, Tryd.ntmps65
    go_wp2_with (first | (go_at_call 26; (with_reducible refine (letter_any _ h0 h1 _).mono ?_); rintro e w' ⟨rfl, rfl⟩))
    go_ret
    exact ⟨rfl, rfl⟩
  | false =>
    cases hd : digitI (b.toNat : Int) with
    | true =>
      go_enter Tryd.func65, Tryd.ntmps65
      go_wp2_with (first | (go_at_call 26; (with_reducible refine (letter_any _ h0 h1 _).mono ?_); rintro e w' ⟨rfl, rfl⟩) | (go_at_call 66; (with_reducible refine (digit_any _ _).mono ?_); rintro e w' ⟨rfl, rfl⟩))
      go_ret
      exact ⟨rfl, rfl⟩
    | false =>
      go_enter Tryd.func65, Tryd.ntmps65
      go_wp2_with (first | (go_at_call 26; (with_reducible refine (letter_any _ h0 h1 _).mono ?_); rintro e w' ⟨rfl, rfl⟩) | (go_at_call 66; (with_reducible refine (digit_any _ _).mono ?_); rintro e w' ⟨rfl, rfl⟩) | (go_at_call 19; (with_reducible refine (Tryd.strings_IndexByte _ _ _).mono ?_); rintro e w' ⟨rfl, rfl⟩))
      go_ret
      exact ⟨by simp, rfl⟩

set_option maxHeartbeats 400000 in
theorem word_any (more : ByteArray) (w : World) :
    Calls Tryd.prog 39 #[.string more] w fun e w' =>
      e = .returned (.func (.func 65) #[] #[.pointer (some ⟨w.heap.size, 0, none⟩)]) ∧ w' = w.alloc (.cells #[.string more] 9) := by
  go_enter Tryd.func39, Tryd.ntmps39
  go_wp2
  go_ret
  exact ⟨rfl, rfl⟩

/-- What address's closure says of a byte. -/
def restB (b : UInt8) : Bool := decide (32 < (b.toNat : Int)) && decide ((b.toNat : Int) ≠ 127) && decide ((b.toNat : Int) ≠ 60) && decide ((b.toNat : Int) ≠ 62)

set_option maxHeartbeats 400000 in
theorem rest_fn (b : UInt8) (w : World) :
    Calls Tryd.prog 40 #[encB b] w fun e w' => e = .returned (.bool (restB b)) ∧ w = w' := by
  unfold encB restB
  have h0 : (0 : Int) ≤ (b.toNat : Int) := by omega
  have h1 : (b.toNat : Int) < 256 := by have := b.toNat_lt; omega
  generalize (b.toNat : Int) = n at *
  by_cases c1 : 32 < n
  · have d1 : decide (32 < n) = true := decide_eq_true c1
    by_cases c2 : n = 127
    · subst c2; go_enter Tryd.func40, Tryd.ntmps40; go_wp2; go_ret; exact ⟨rfl, rfl⟩
    · by_cases c3 : n = 60
      · subst c3; go_enter Tryd.func40, Tryd.ntmps40; go_wp2; go_ret; exact ⟨rfl, rfl⟩
      · by_cases c4 : n = 62
        · subst c4; go_enter Tryd.func40, Tryd.ntmps40; go_wp2; go_ret; exact ⟨rfl, rfl⟩
        · have e2 : (n != 127) = true := by simpa using c2
          have e3 : (n != 60) = true := by simpa using c3
          have e4 : (n != 62) = true := by simpa using c4
          have g2 : decide (n ≠ 127) = true := by simpa using c2
          have g3 : decide (n ≠ 60) = true := by simpa using c3
          have g4 : decide (n ≠ 62) = true := by simpa using c4
          rw [g2, g3, g4]
          clear c1 c2 c3 c4 g2 g3 g4
          go_enter Tryd.func40, Tryd.ntmps40; go_wp2; go_ret; exact ⟨by simp [d1], rfl⟩
  · have d1 : decide (32 < n) = false := decide_eq_false c1
    rw [d1]
    clear c1
    go_enter Tryd.func40, Tryd.ntmps40; go_wp2; go_ret; exact ⟨rfl, rfl⟩

/-- At every byte, in every world that has grown out of w, function g with what it captured tells p of the byte, and turns nothing. -/
structure FnB (g : Nat) (lb : Array Value) (p : UInt8 → Bool) (w : World) : Prop where
  mk :: (out : ∀ (W : World) (b : UInt8), Bl w W → Calls Tryd.prog g (#[encB b] ++ lb) W fun e w' => e = .returned (.bool (p b)) ∧ W = w')
theorem FnB.later {g : Nat} {lb : Array Value} {p : UInt8 → Bool} {w W : World} (h : FnB g lb p w) (k : Bl w W) : FnB g lb p W :=
  ⟨fun W' b hb => h.out W' b (k.trans hb)⟩
theorem fnB_word (more : ByteArray) (a : Addr) (w : World) (hc : w.cell? a = some (.string more)) : FnB 65 #[.pointer (some a)] (wordB more.data.toList) w :=
  ⟨fun W b hb => word_fn more a b W (hb.cell hc)⟩
theorem fnB_rest (w : World) : FnB 40 #[] restB w := ⟨fun W b _ => rest_fn b W⟩

def allL (l : List UInt8) (p : UInt8 → Bool) : Bool := l.all p
theorem take_succ_all (s : ByteArray) (p : UInt8 → Bool) (k : Nat) (h : k < s.size) : (s.data.toList.take (k + 1)).all p = ((s.data.toList.take k).all p && p s[k]) := by
  rw [List.take_succ_eq_append_getElem (by simpa using h), List.all_append]
  simp; rfl
theorem all_false (s : ByteArray) (p : UInt8 → Bool) (k : Nat) (h : k < s.size) (hb : p s[k] = false) : allL s.data.toList p = false := by
  unfold allL
  rw [List.all_eq_false]
  exact ⟨s[k], by rw [← Array.mem_def]; exact Array.getElem_mem (by simpa using h), by simp [hb]⟩
set_option maxHeartbeats 400000 in
theorem all_any (s : ByteArray) (g : Nat) (lb : Array Value) (p : UInt8 → Bool) (w : World) (hs : s.size ≤ 140737488351232) (hp : FnB g lb p w)
    (eg : ∀ args w, (callFunc g args).run Tryd.prog w = .ok (.enter g args) w) :
    Calls Tryd.prog 38 #[.string s, .func (.func g) #[] lb] w fun e w' => e = .returned (.bool (allL s.data.toList p)) ∧ w = w' := by
  go_enter Tryd.func38, Tryd.ntmps38
  go_wp2
  go_loop [8] (fun i => ∃ k : Nat, k ≤ s.size ∧ i = .int .i64 k ∧ Hid ((s.data.toList.take k).all p = true)) (fun i => s.size - (intOf i).toNat)
  case atStart => exact ⟨0, Nat.zero_le _, rfl, Lib.hid (by simp)⟩
  case round =>
    obtain ⟨k, hk, rfl, hall⟩ := hrel
    by_cases hlt : k < s.size
    · have hf := hp.out w s[k] (Bl.refl w)
      have H := Lib.hid (take_succ_all s p k hlt)
      cases hb : p s[k] with
      | true =>
        go_wp2_with (first | (go_at_fn g; (with_reducible refine hf.mono ?_); rintro e w' ⟨rfl, rfl⟩))
        go_round
        case rel => exact ⟨k + 1, by omega, by go_num, Lib.hid (by rw [H.out, hall.out, hb]; rfl)⟩
        case measure => simp [intOf]; omega
      | false =>
        go_wp2_with (first | (go_at_fn g; (with_reducible refine hf.mono ?_); rintro e w' ⟨rfl, rfl⟩))
        go_ret
        exact ⟨ret_bool (all_false s p k hlt hb).symm, rfl⟩
    · go_wp2
      go_ret
      refine ⟨ret_bool ?_, rfl⟩
      have := hall.out
      rw [List.take_of_length_le (by simp; omega)] at this
      exact this.symm

end Go.Proofs.YtgamlckdjfjobaaDoor
