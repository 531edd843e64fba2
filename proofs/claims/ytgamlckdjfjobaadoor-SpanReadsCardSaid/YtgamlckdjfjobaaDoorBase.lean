/- Contracts of the small functions of class and of closures that span uses. -/
import Derived.Test.YtgamlckdjfjobaaDoorRows
import Derived.WalkKit
import Derived.WalkSpells
import Derived.WalkLawsBesides
import Derived.Deep.QuietTactic
import Derived.BigQuiet
import Derived.Lib.Hide
namespace Go.Proofs.YtgamlckdjfjobaaDoor
open Go.RowKit

/-- A letter, of a byte's number. -/
def letterI (n : Int) : Bool := (decide (97 ≤ n) && decide (n ≤ 122)) || (decide (65 ≤ n) && decide (n ≤ 90))
/-- A digit, of a byte's number. -/
def digitI (n : Int) : Bool := decide (48 ≤ n) && decide (n ≤ 57)

theorem letter_bits : ∀ m : Fin 256, (decide (97 ≤ Go.bits .or .u8 (m.val : Int) 32) && decide (Go.bits .or .u8 (m.val : Int) 32 ≤ 122)) = letterI (m.val : Int) := by decide +kernel
theorem letter_bitsI (n : Int) (h0 : 0 ≤ n) (h1 : n < 256) : (decide (97 ≤ Go.bits .or .u8 n 32) && decide (Go.bits .or .u8 n 32 ≤ 122)) = letterI n := by
  obtain ⟨m, rfl⟩ := Int.eq_ofNat_of_zero_le h0
  exact letter_bits ⟨m, by omega⟩

set_option maxHeartbeats 400000 in
theorem letter_any (n : Int) (h0 : 0 ≤ n) (h1 : n < 256) (w : World) :
    Calls Tryd.prog 26 #[.int .u8 n] w fun e w' => e = .returned (.bool (letterI n)) ∧ w = w' := by
  rw [← letter_bitsI n h0 h1]
  by_cases c : 97 ≤ Go.bits .or .u8 n 32
  · have cb : decide (97 ≤ Go.bits .or .u8 n 32) = true := decide_eq_true c
    clear c
    go_enter Tryd.func26, Tryd.ntmps26
    go_wp2
    go_ret
    exact ⟨by first | (rw [cb, Bool.true_and]; rfl) | (rw [cb, Bool.false_and]; rfl), rfl⟩
  · have cb : decide (97 ≤ Go.bits .or .u8 n 32) = false := decide_eq_false c
    clear c
    go_enter Tryd.func26, Tryd.ntmps26
    go_wp2
    go_ret
    exact ⟨by first | (rw [cb, Bool.true_and]; rfl) | (rw [cb, Bool.false_and]; rfl), rfl⟩

set_option maxHeartbeats 400000 in
theorem digit_any (n : Int) (w : World) :
    Calls Tryd.prog 66 #[.int .u8 n] w fun e w' => e = .returned (.bool (digitI n)) ∧ w = w' := by
  unfold digitI
  by_cases c : 48 ≤ n
  · have cb : decide (48 ≤ n) = true := decide_eq_true c
    clear c
    go_enter Tryd.func66, Tryd.ntmps66
    go_wp2
    go_ret
    exact ⟨by first | (rw [cb, Bool.true_and]; rfl) | (rw [cb, Bool.false_and]; rfl), rfl⟩
  · have cb : decide (48 ≤ n) = false := decide_eq_false c
    clear c
    go_enter Tryd.func66, Tryd.ntmps66
    go_wp2
    go_ret
    exact ⟨by first | (rw [cb, Bool.true_and]; rfl) | (rw [cb, Bool.false_and]; rfl), rfl⟩

end Go.Proofs.YtgamlckdjfjobaaDoor
