/- Contracts of the references' small functions: letters, digits, white, Begins, Within, upTo, skip, Run, Name. -/
import Derived.Test.YtgamlckdjfjobaaDoorRaw
namespace Go.Proofs.YtgamlckdjfjobaaDoor
open Go.RowKit

set_option maxHeartbeats 1000000 in
theorem r12letter_any (n : Int) (w : World) :
    Calls Tryd.prog 31 #[.int .u8 n] w fun e w' => e = .returned (.bool (letterI n)) ∧ w = w' := by
  unfold letterI
  cases h1 : decide (97 ≤ n) <;> cases h2 : decide (n ≤ 122) <;> cases h3 : decide (65 ≤ n) <;> cases h4 : decide (n ≤ 90) <;>
    (go_enter Tryd.func31, Tryd.ntmps31; go_wp2; go_ret; exact ⟨rfl, rfl⟩)
set_option maxHeartbeats 1000000 in
theorem r08letter_any (n : Int) (w : World) :
    Calls Tryd.prog 74 #[.int .u8 n] w fun e w' => e = .returned (.bool (letterI n)) ∧ w = w' := by
  unfold letterI
  cases h1 : decide (97 ≤ n) <;> cases h2 : decide (n ≤ 122) <;> cases h3 : decide (65 ≤ n) <;> cases h4 : decide (n ≤ 90) <;>
    (go_enter Tryd.func74, Tryd.ntmps74; go_wp2; go_ret; exact ⟨rfl, rfl⟩)
set_option maxHeartbeats 1000000 in
theorem r12digit_any (n : Int) (w : World) :
    Calls Tryd.prog 43 #[.int .u8 n] w fun e w' => e = .returned (.bool (digitI n)) ∧ w = w' := by
  unfold digitI
  cases h1 : decide (48 ≤ n) <;> cases h2 : decide (n ≤ 57) <;>
    (go_enter Tryd.func43, Tryd.ntmps43; go_wp2; go_ret; exact ⟨rfl, rfl⟩)
set_option maxHeartbeats 1000000 in
theorem r08digit_any (n : Int) (w : World) :
    Calls Tryd.prog 75 #[.int .u8 n] w fun e w' => e = .returned (.bool (digitI n)) ∧ w = w' := by
  unfold digitI
  cases h1 : decide (48 ≤ n) <;> cases h2 : decide (n ≤ 57) <;>
    (go_enter Tryd.func75, Tryd.ntmps75; go_wp2; go_ret; exact ⟨rfl, rfl⟩)
def whiteI (n : Int) : Bool := (n == 32) || (n == 9) || (n == 10)
theorem whiteI_byte (b : UInt8) : whiteI (b.toNat : Int) = whiteS.contains b := by
  unfold whiteI whiteS
  rw [eq_of_byte (c := 32) 32 rfl, eq_of_byte (c := 9) 9 rfl, eq_of_byte (c := 10) 10 rfl]
  simp only [List.contains_cons, List.contains_nil, Bool.or_false, Bool.or_assoc]
set_option maxHeartbeats 1000000 in
theorem r08white_any (n : Int) (w : World) :
    Calls Tryd.prog 77 #[.int .u8 n] w fun e w' => e = .returned (.bool (whiteI n)) ∧ w = w' := by
  unfold whiteI
  cases h1 : (n == 32) <;> cases h2 : (n == 9) <;> cases h3 : (n == 10) <;>
    (go_enter Tryd.func77, Tryd.ntmps77; go_wp2; go_ret; exact ⟨rfl, rfl⟩)

set_option maxHeartbeats 1000000 in
theorem r12run_any (s : ByteArray) (w : World) (hs : s.size ≤ 140737488351232) :
    Calls Tryd.prog 17 #[.string s] w fun e w' => e = .returned (.int .i64 (runL s.data.toList)) ∧ Bl w w' := by
  have hl : s.data.toList.length = s.size := by simp
  have L := Lib.hid hl
  clear hl
  go_enter Tryd.func17, Tryd.ntmps17
  go_wp2
  go_loopw [3] (fun i wr => ∃ k : Nat, k ≤ s.size ∧ i = .int .i64 k ∧ Bl w wr ∧ Hid ((s.data.toList.take k).all (· == s.data.toList.headD 0) = true)) (fun i _ => s.size - (intOf i).toNat)
  case atStart => exact ⟨0, Nat.zero_le _, rfl, Bl.refl _, Lib.hid (by simp)⟩
  case round =>
    obtain ⟨k, hk, rfl, hb, hall⟩ := hrel
    by_cases hlt : k < s.size
    · have hp : 0 < s.size := by omega
      have G := Lib.hid (headD_at s hp)
      have H := Lib.hid (take_succ_all s (· == s.data.toList.headD 0) k hlt)
      have E := Lib.hid (beq_of_byte s[k] s[0])
      cases he : ((s[k].toNat : Int) == (s[0].toNat : Int)) with
      | true =>
        go_wp2
        repeat (go_quiet (fail); try go_wp2)
        go_roundw
        case rel => exact ⟨k + 1, by omega, by go_num, by repeat (first | exact hb | apply Bl.drewN | apply Bl.drew), Lib.hid (by rw [H.out, hall.out, G.out]; rw [he] at E; exact E.out.symm)⟩
        case measure => simp [intOf]; omega
      | false =>
        go_wp2
        repeat (go_quiet (fail); try go_wp2)
        go_ret
        refine ⟨ret_int ?_, by repeat (first | exact hb | apply Bl.drewN | apply Bl.drew)⟩
        have h := takeWhile_stop (· == s.data.toList.headD 0) s.data.toList k (by rw [L.out]; exact hk) hall.out
        rw [runL, h]
        intro a ha
        have : a = s[k] := Option.some.inj (ha.symm.trans (at_some s k hlt))
        rw [this, G.out]; rw [he] at E; exact E.out.symm
    · go_wp2
      repeat (go_quiet (fail); try go_wp2)
      go_ret
      refine ⟨ret_int ?_, by repeat (first | exact hb | apply Bl.drewN | apply Bl.drew)⟩
      have h := takeWhile_stop (· == s.data.toList.headD 0) s.data.toList k (by rw [L.out]; exact hk) hall.out
      rw [runL, h]
      intro a ha
      rw [at_none s k hlt] at ha; cases ha
theorem r12run_is (s : ByteArray) (m : Nat) (h : runL s.data.toList = m) (hs : s.size ≤ 140737488351232) (w : World) :
    Calls Tryd.prog 17 #[.string s] w fun e w' => e = .returned (.int .i64 m) ∧ Bl w w' := by
  subst h; exact r12run_any s w hs

/-! ### parts of a text held against another -/
theorem piece_beq (s t : ByteArray) (i : Nat) (h : i + t.size ≤ s.size) : ((s.extract i (i + t.size)).toList == t.toList) = Lib.occAt s.data.toList t.data.toList i := (Lib.occ_of_piece s t i h).symm

set_option maxHeartbeats 1000000 in
theorem begins_any (s t : ByteArray) (w : World) (_hs : s.size ≤ 140737488351232) (_ht : t.size ≤ 140737488351232) :
    Calls Tryd.prog 29 #[.string s, .string t] w fun e w' => e = .returned (.bool (Lib.hasPrefix s.data.toList t.data.toList)) ∧ Bl w w' := by
  rcases Nat.lt_or_ge s.size t.size with h | h
  · have R : Lib.hasPrefix s.data.toList t.data.toList = false := by
      cases e : Lib.hasPrefix s.data.toList t.data.toList with
      | false => rfl
      | true => have := (List.isPrefixOf_iff_prefix.mp e).length_le; rw [size_len, size_len] at this; omega
    rw [R]
    have d : decide (t.size ≤ s.size) = false := decide_eq_false (by omega)
    clear R h
    go_enter Tryd.func29, Tryd.ntmps29
    go_wp2
    go_ret
    exact ⟨rfl, Bl.refl _⟩
  · have P := piece_beq s t 0 (by omega)
    rw [Nat.zero_add] at P
    have R : Lib.hasPrefix s.data.toList t.data.toList = Lib.occAt s.data.toList t.data.toList 0 := by unfold Lib.occAt; rw [List.drop_zero]; rfl
    rw [R, ← P]
    have d : decide (t.size ≤ s.size) = true := decide_eq_true (by omega)
    clear R P
    go_enter Tryd.func29, Tryd.ntmps29
    go_wp2
    go_ret
    exact ⟨rfl, Bl.refl _⟩

set_option maxHeartbeats 1000000 in
theorem within_any (s t : ByteArray) (w : World) (hs : s.size ≤ 1000000) (ht : t.size ≤ 1000000) :
    Calls Tryd.prog 44 #[.string s, .string t] w fun e w' => e = .returned (.bool (decide (0 ≤ Lib.index s.data.toList t.data.toList))) ∧ Bl w w' := by
  go_enter Tryd.func44, Tryd.ntmps44
  go_wp2
  go_loopw [5] (fun i wr => ∃ k : Nat, k ≤ s.size + 1 ∧ i = .int .i64 k ∧ Bl w wr ∧ Hid (∀ j, j < k → Lib.occAt s.data.toList t.data.toList j = false)) (fun i _ => s.size + 1 - (intOf i).toNat)
  case atStart => exact ⟨0, Nat.zero_le _, rfl, Bl.refl _, Lib.hid (fun j hj => absurd hj (by omega))⟩
  case round =>
    obtain ⟨k, hk, rfl, hb, hno⟩ := hrel
    by_cases hlt : k + t.size ≤ s.size
    · have P := piece_beq s t k hlt
      have d : decide ((k : Int) + (t.size : Int) ≤ (s.size : Int)) = true := decide_eq_true (by omega)
      obtain ⟨o, ho⟩ : ∃ o, Lib.occAt s.data.toList t.data.toList k = o := ⟨_, rfl⟩
      rw [ho] at P
      have O := Lib.hid ho
      have tn : ((k : Int) + (t.size : Int)).toNat = k + t.size := by omega
      clear ho
      cases o with
      | true =>
        have R := Lib.hid (show decide (0 ≤ Lib.index s.data.toList t.data.toList) = true by
          rw [Lib.index_first (by rw [size_len]; omega) O.out hno.out]; exact decide_eq_true (by omega))
        go_wp2
        go_ret
        exact ⟨ret_bool (by rw [R.out]), hb⟩
      | false =>
        go_wp2
        go_roundw
        case rel => exact ⟨k + 1, by omega, by go_num, hb, Lib.hid (fun j hj => by
          rcases Nat.lt_or_ge j k with h | h
          · exact hno.out j h
          · rw [show j = k by omega]; exact O.out)⟩
        case measure => simp [intOf]; omega
    · have d : decide ((k : Int) + (t.size : Int) ≤ (s.size : Int)) = false := decide_eq_false (by omega)
      have R := Lib.hid (show decide (0 ≤ Lib.index s.data.toList t.data.toList) = false by
        rw [Lib.index_none]
        · decide
        · intro j hj
          rcases Nat.lt_or_ge j k with h | h
          · exact hno.out j h
          · cases e : Lib.occAt s.data.toList t.data.toList j with
            | false => rfl
            | true =>
              have := (List.isPrefixOf_iff_prefix.mp e).length_le
              rw [List.length_drop, size_len, size_len] at this
              rw [size_len] at hj
              exfalso; omega)
      go_wp2
      go_ret
      exact ⟨ret_bool (by rw [R.out]), hb⟩

end Go.Proofs.YtgamlckdjfjobaaDoor
