/- The contracts of the reference's Auto and of an attribute's value. -/
import Derived.Test.YtgamlckdjfjobaaDoorRef4
import Derived.Test.YtgamlckdjfjobaaDoorEnds12
namespace Go.Proofs.YtgamlckdjfjobaaDoor
open Go.RowKit

theorem no62_succ (s : ByteArray) (i : Nat) (hi : i < s.size) (h : (s.data.toList.take i).all (· != 62) = true) (h1 : (s[i] == 62) = false) : (s.data.toList.take (i + 1)).all (· != 62) = true := by
  rw [take_succ_all s (· != 62) i hi, h, bne, h1]; rfl
theorem auto_split (s : ByteArray) (i : Nat) (hi : i < s.size) (h1 : s[i] = 62) : s.data.toList = s.data.toList.take i ++ 62 :: s.data.toList.drop (i + 1) := by
  have hlt : i < s.data.toList.length := by rw [size_len]; exact hi
  have h2 := List.take_append_drop i s.data.toList
  rw [List.drop_eq_getElem_cons hlt, show s.data.toList[i] = 62 from h1] at h2
  exact h2.symm
theorem auto_at (s : ByteArray) (i : Nat) (h1i : 1 ≤ i) (hi : i < s.size) (h60 : s[0]'(by omega) = 60) (h : (s.data.toList.take i).all (· != 62) = true) (h1 : s[i] = 62) (T : ByteArray) (hT : s.extract 1 i = T) :
    autoV s.data.toList = .tuple (if addressL T.data.toList then #[.string T, .string T, .int .i64 ((i : Int) + 1)]
          else if mailL T.data.toList then #[.string ((⟨#[109, 97, 105, 108, 116, 111, 58]⟩ : ByteArray) ++ T), .string T, .int .i64 ((i : Int) + 1)] else #[.string ⟨#[]⟩, .string ⟨#[]⟩, .int .i64 0]) := by
  have e := auto_split s i hi h1
  have hq : ∀ x ∈ s.data.toList.take i, (x != 62) = true := fun x hx => (List.all_eq_true.mp h) x hx
  have ha := autoL_of (s.data.toList.take i) (s.data.toList.drop (i + 1)) hq
  rw [← e] at ha
  have hh : (s.data.toList.take i).headD 62 = 60 := by
    rw [List.headD_eq_head?_getD, List.head?_take, if_neg (by omega), List.head?_eq_getElem?, at_some s 0 (by omega), h60]; rfl
  have hl : (s.data.toList.take i).length = i := by rw [List.length_take, size_len]; omega
  have ht : (s.data.toList.take i).tail = T.data.toList := by
    rw [← hT, Lib.extract_data, ← List.drop_one, List.drop_take]
  rw [hh, if_pos (show ((60 : UInt8) == 60) = true from rfl), ht, hl] at ha
  have ei : ((i + 1 : Nat) : Int) = (i : Int) + 1 := by omega
  unfold autoV
  rw [ha]
  by_cases c1 : addressL T.data.toList = true
  · rw [if_pos c1, if_pos c1]
    show Value.tuple #[.string (mkB T.data.toList), .string (mkB T.data.toList), .int .i64 ((i + 1 : Nat) : Int)] = _
    rw [mkB_self, ei]
  · rw [if_neg c1, if_neg c1]
    by_cases c2 : mailL T.data.toList = true
    · rw [if_pos c2, if_pos c2]
      have : mkB ([109, 97, 105, 108, 116, 111, 58] ++ T.data.toList) = (⟨#[109, 97, 105, 108, 116, 111, 58]⟩ : ByteArray) ++ T := by
        refine str_eq ?_
        simp [mkB]
      show Value.tuple #[.string (mkB ([109, 97, 105, 108, 116, 111, 58] ++ T.data.toList)), .string (mkB T.data.toList), .int .i64 ((i + 1 : Nat) : Int)] = _
      rw [this, mkB_self, ei]
    · rw [if_neg c2, if_neg c2]; rfl
theorem all_contains (l : List UInt8) (c : UInt8) (h : l.all (· != c) = true) : l.contains c = false := by
  cases e : l.contains c with
  | false => rfl
  | true =>
    have : c ∈ l := by simpa using e
    have := (List.all_eq_true.mp h) c this
    simp at this

set_option maxRecDepth 100000 in
set_option maxHeartbeats 2000000 in
theorem r12auto_any (s : ByteArray) (w : World) (hs : s.size ≤ 1000000) :
    Calls Tryd.prog 13 #[.string s] w fun e w' => e = .returned (autoV s.data.toList) ∧ Bl w w' := by
  rcases Nat.eq_zero_or_pos s.size with e0 | hp
  · obtain rfl := str_nil e0
    go_enter Tryd.func13, Tryd.ntmps13
    go_wp2
    go_ret3
    exact ⟨rfl, Bl.refl _⟩
  have e1 := isEmpty_false hp
  have hd := headD_at s hp
  have E60 := eq_of_byte (b := s[0]) (c := 60) 60 rfl
  have N60 : ((s[0].toNat : Int) != 60) = !((s[0].toNat : Int) == 60) := rfl
  cases h60 : ((s[0].toNat : Int) == 60) with
  | false =>
    rw [h60] at E60 N60
    have R := Lib.hid (autoV_no (l := s.data.toList) (by rw [hd, ← E60]; simp))
    clear hd E60
    go_enter Tryd.func13, Tryd.ntmps13
    go_wp2
    go_ret3
    exact ⟨by rw [R.out]; rfl, Bl.refl _⟩
  | true =>
    rw [h60] at E60 N60
    have X60 := Lib.hid (show s[0] = 60 by simpa using E60.symm)
    clear hd E60
    go_enter Tryd.func13, Tryd.ntmps13
    go_wp2
    clear h60 N60
    go_loopw [5] (fun iv wr => ∃ i : Nat, 1 ≤ i ∧ i ≤ s.size ∧ iv = .int .i64 i ∧ Bl w wr ∧ Hid ((s.data.toList.take i).all (· != 62) = true)) (fun iv _ => s.size - (intOf iv).toNat)
    case atStart => exact ⟨1, Nat.le_refl _, hp, rfl, Bl.refl _, Lib.hid (no62_succ s 0 hp (by simp) (by rw [X60.out]; rfl))⟩
    case round =>
      obtain ⟨i, h1i, hi, rfl, hb, hall⟩ := hrel
      by_cases hlt : i < s.size
      · have dl : decide (i < s.size) = true := decide_eq_true hlt
        have E62 := Lib.hid (eq_of_byte (b := s[i]) (c := 62) 62 rfl)
        have N62 : ((s[i].toNat : Int) != 62) = !((s[i].toNat : Int) == 62) := rfl
        cases h62 : ((s[i].toNat : Int) == 62) with
        | false =>
          rw [h62] at E62 N62
          have H := Lib.hid (no62_succ s i hlt hall.out E62.out.symm)
          go_wp2
          go_roundw
          case rel => exact ⟨i + 1, by omega, by omega, by go_num, hb, H⟩
          case measure => simp [intOf]; omega
        | true =>
          rw [h62] at E62 N62
          obtain ⟨T, hT⟩ : ∃ T, s.extract 1 i = T := ⟨_, rfl⟩
          have R := Lib.hid (auto_at s i h1i hlt X60.out hall.out (by simpa using E62.out.symm) T hT)
          have hTs : T.size ≤ 1000000 := by rw [← hT, ByteArray.size_extract]; omega
          have HA := fun W => r12address_any T W hTs
          have HM := fun W => r12mailbox_any T W hTs
          clear E62
          cases ha : addressL T.data.toList with
          | true =>
            rw [ha] at HA
            go_wp2_with (first | (go_at_call 23; (with_reducible refine (HA _).mono ?_); rintro e w2 ⟨rfl, hb2⟩))
            go_ret3
            exact ⟨by rw [R.out, ha]; rfl, hb.trans hb2⟩
          | false =>
            rw [ha] at HA
            cases hm : mailL T.data.toList with
            | true =>
              rw [hm] at HM
              go_wp2_with (first | (go_at_call 23; (with_reducible refine (HA _).mono ?_); rintro e w2 ⟨rfl, hb2⟩) | (go_at_call 24; (with_reducible refine (HM _).mono ?_); rintro e w3 ⟨rfl, hb3⟩))
              go_ret3
              exact ⟨by rw [R.out, ha, hm]; rfl, (hb.trans hb2).trans hb3⟩
            | false =>
              rw [hm] at HM
              go_wp2_with (first | (go_at_call 23; (with_reducible refine (HA _).mono ?_); rintro e w2 ⟨rfl, hb2⟩) | (go_at_call 24; (with_reducible refine (HM _).mono ?_); rintro e w3 ⟨rfl, hb3⟩))
              go_ret3
              exact ⟨by rw [R.out, ha, hm]; rfl, (hb.trans hb2).trans hb3⟩
      · obtain rfl : i = s.size := by omega
        have dl : decide (s.size < s.size) = false := decide_eq_false (by omega)
        have R := Lib.hid (autoV_no (l := s.data.toList) (by
          have h := hall.out
          rw [List.take_of_length_le (by rw [size_len]; omega)] at h
          rw [all_contains _ _ h]; rfl))
        go_wp2
        go_ret3
        exact ⟨by rw [R.out]; rfl, hb⟩

/-! ### an attribute's value -/
structure ValR (s X : ByteArray) : Prop where
  ok : valueOk s = true → X = valueT s
  le : X.size ≤ s.size
theorem quote_split (s : ByteArray) (q : UInt8) (k : Nat) (h1k : 1 ≤ k) (hk : k < s.size) (hall : ((s.data.toList.take k).tail).all (· != q) = true) (hq : s[k] = q) :
    s.data.toList.tail.contains q = true ∧ (s.data.toList.tail.dropWhile (· != q)).tail = s.data.toList.drop (k + 1) := by
  have hlt : k < s.data.toList.length := by rw [size_len]; exact hk
  have h2 := List.take_append_drop k s.data.toList
  rw [List.drop_eq_getElem_cons hlt, show s.data.toList[k] = q from hq] at h2
  have hne : s.data.toList.take k ≠ [] := by
    intro e; have := (take_nil_iff s k hk).mp e; omega
  have h3 : s.data.toList.tail = (s.data.toList.take k).tail ++ q :: s.data.toList.drop (k + 1) := by
    conv => lhs; rw [← h2]
    rw [List.tail_append_of_ne_nil hne]
  constructor
  · rw [h3]; simp
  · rw [h3, List.dropWhile_append_of_pos (fun x hx => (List.all_eq_true.mp hall) x hx), List.dropWhile_cons, if_neg (by simp)]; rfl
theorem tail_all_step (s : ByteArray) (q : UInt8) (k : Nat) (h1 : 1 ≤ k) (h : k < s.size) (ha : ((s.data.toList.take k).tail).all (· != q) = true) (hq : (s[k] == q) = false) : ((s.data.toList.take (k + 1)).tail).all (· != q) = true := by
  rw [tail_all_succ s (· != q) k h1 h, ha, bne, hq]; rfl
theorem bare_list (b : UInt8) : bareB b = (!whiteI (b.toNat : Int) && !((b.toNat : Int) == 34) && !((b.toNat : Int) == 39) && !((b.toNat : Int) == 61) && !((b.toNat : Int) == 60) && !((b.toNat : Int) == 62) && !((b.toNat : Int) == 96)) := by
  unfold bareB
  rw [whiteI_byte, eq_of_byte (c := 34) 34 rfl, eq_of_byte (c := 39) 39 rfl, eq_of_byte (c := 61) 61 rfl, eq_of_byte (c := 60) 60 rfl, eq_of_byte (c := 62) 62 rfl, eq_of_byte (c := 96) 96 rfl]
  unfold whiteS
  simp only [List.contains_cons, List.contains_nil, Bool.or_false, Bool.not_or, Bool.and_assoc]

set_option maxRecDepth 100000 in
set_option maxHeartbeats 2000000 in
theorem r08value_q1 (s : ByteArray) (w : World) (hs : s.size ≤ 1000000) (hp : 0 < s.size) (hq : (s.data.toList.headD 0 == 34) = true) :
    Calls Tryd.prog 76 #[.string s] w fun e w' => ∃ X : ByteArray, e = .returned (.tuple #[.string X, .bool (valueOk s)]) ∧ ValR s X ∧ Bl w w' := by
  have e1 := isEmpty_false hp
  have hd := headD_at s hp
  have E0 := eq_of_byte (b := s[0]) (c := 34) 34 rfl
  rw [← hd, hq] at E0
  have E34 : ((s[0].toNat : Int) == 34) = (s[0] == 34) := eq_of_byte 34 rfl
  have hx : s[0] = 34 := by rw [← hd]; simpa using hq
  have hn : (s[0].toNat : Int) = 34 := by rw [hx]; rfl
  have V : valueL s.data.toList = (if s.data.toList.tail.contains 34 then (true, (s.data.toList.tail.dropWhile (· != 34)).tail) else (false, s.data.toList.tail)) := by
    have h0 : s.data.toList.headD 0 = 34 := by simpa using hq
    unfold valueL; rw [h0]; rfl
  have VH := Lib.hid V
  have HX := Lib.hid hx
  clear E34 V hx hq hd E0
  go_enter Tryd.func76, Tryd.ntmps76
  go_wp2
  go_loopw [4] (fun iv wr => ∃ k : Nat, 1 ≤ k ∧ k ≤ s.size ∧ iv = .int .i64 k ∧ Bl w wr ∧ Hid (((s.data.toList.take k).tail).all (· != 34) = true)) (fun iv _ => s.size - (intOf iv).toNat)
  case atStart => exact ⟨1, Nat.le_refl _, hp, rfl, Bl.refl _, Lib.hid (by cases s.data.toList <;> simp)⟩
  case round =>
    obtain ⟨k, h1k, hk, rfl, hb, hall⟩ := hrel
    by_cases hlt : k < s.size
    · have dl : decide (k < s.size) = true := decide_eq_true hlt
      have EQ := Lib.hid (eq_of_byte (b := s[k]) (c := 34) 34 rfl)
      cases he : ((s[k].toNat : Int) == 34) with
      | false =>
        rw [he] at EQ
        have H := Lib.hid (tail_all_step s 34 k h1k hlt hall.out EQ.out.symm)
        go_wp2
        repeat (go_quiet (fail); try go_wp2)
        go_roundw
        case rel => exact ⟨k + 1, by omega, by omega, by go_num, (by repeat (first | exact hb | apply Bl.drewN | apply Bl.drew)), H⟩
        case measure => simp [intOf]; omega
      | true =>
        rw [he] at EQ
        obtain ⟨hc, hdw⟩ := quote_split s 34 k h1k hlt hall.out (by simpa using EQ.out.symm)
        have R := Lib.hid (show valueOk s = true ∧ s.extract (k + 1) s.size = valueT s by
          unfold valueOk valueT
          rw [VH.out, if_pos hc]
          exact ⟨rfl, by refine str_eq ?_; rw [Lib.extract_to_end, mkB_data, hdw]⟩)
        clear hc hdw
        go_wp2
        repeat (go_quiet (fail); try go_wp2)
        go_ret2
        exact ⟨s.extract (k + 1) s.size, by rw [R.out.1]; rfl, ⟨fun _ => R.out.2, by rw [ByteArray.size_extract]; omega⟩, by repeat (first | exact hb | apply Bl.drewN | apply Bl.drew)⟩
    · obtain rfl : k = s.size := by omega
      have dl : decide (s.size < s.size) = false := decide_eq_false (by omega)
      have R := Lib.hid (show valueOk s = false by
        have h := hall.out
        rw [List.take_of_length_le (by rw [size_len]; omega)] at h
        unfold valueOk
        rw [VH.out, if_neg (by rw [all_contains _ _ h]; decide)])
      go_wp2
      repeat (go_quiet (fail); try go_wp2)
      go_ret2
      exact ⟨s, by rw [R.out]; rfl, ⟨fun h => (by rw [R.out] at h; cases h), Nat.le_refl _⟩, by repeat (first | exact hb | apply Bl.drewN | apply Bl.drew)⟩
set_option maxRecDepth 100000 in
set_option maxHeartbeats 2000000 in
theorem r08value_q2 (s : ByteArray) (w : World) (hs : s.size ≤ 1000000) (hp : 0 < s.size) (hq : (s.data.toList.headD 0 == 39) = true) :
    Calls Tryd.prog 76 #[.string s] w fun e w' => ∃ X : ByteArray, e = .returned (.tuple #[.string X, .bool (valueOk s)]) ∧ ValR s X ∧ Bl w w' := by
  have e1 := isEmpty_false hp
  have hd := headD_at s hp
  have E0 := eq_of_byte (b := s[0]) (c := 39) 39 rfl
  rw [← hd, hq] at E0
  have E34 : ((s[0].toNat : Int) == 34) = (s[0] == 34) := eq_of_byte 34 rfl
  have hx : s[0] = 39 := by rw [← hd]; simpa using hq
  have hn : (s[0].toNat : Int) = 39 := by rw [hx]; rfl
  have V : valueL s.data.toList = (if s.data.toList.tail.contains 39 then (true, (s.data.toList.tail.dropWhile (· != 39)).tail) else (false, s.data.toList.tail)) := by
    have h0 : s.data.toList.headD 0 = 39 := by simpa using hq
    unfold valueL; rw [h0]; rfl
  have VH := Lib.hid V
  have HX := Lib.hid hx
  clear E34 V hx hq hd E0
  go_enter Tryd.func76, Tryd.ntmps76
  go_wp2
  go_loopw [4] (fun iv wr => ∃ k : Nat, 1 ≤ k ∧ k ≤ s.size ∧ iv = .int .i64 k ∧ Bl w wr ∧ Hid (((s.data.toList.take k).tail).all (· != 39) = true)) (fun iv _ => s.size - (intOf iv).toNat)
  case atStart => exact ⟨1, Nat.le_refl _, hp, rfl, Bl.refl _, Lib.hid (by cases s.data.toList <;> simp)⟩
  case round =>
    obtain ⟨k, h1k, hk, rfl, hb, hall⟩ := hrel
    by_cases hlt : k < s.size
    · have dl : decide (k < s.size) = true := decide_eq_true hlt
      have EQ := Lib.hid (eq_of_byte (b := s[k]) (c := 39) 39 rfl)
      cases he : ((s[k].toNat : Int) == 39) with
      | false =>
        rw [he] at EQ
        have H := Lib.hid (tail_all_step s 39 k h1k hlt hall.out EQ.out.symm)
        go_wp2
        repeat (go_quiet (fail); try go_wp2)
        go_roundw
        case rel => exact ⟨k + 1, by omega, by omega, by go_num, (by repeat (first | exact hb | apply Bl.drewN | apply Bl.drew)), H⟩
        case measure => simp [intOf]; omega
      | true =>
        rw [he] at EQ
        obtain ⟨hc, hdw⟩ := quote_split s 39 k h1k hlt hall.out (by simpa using EQ.out.symm)
        have R := Lib.hid (show valueOk s = true ∧ s.extract (k + 1) s.size = valueT s by
          unfold valueOk valueT
          rw [VH.out, if_pos hc]
          exact ⟨rfl, by refine str_eq ?_; rw [Lib.extract_to_end, mkB_data, hdw]⟩)
        clear hc hdw
        go_wp2
        repeat (go_quiet (fail); try go_wp2)
        go_ret2
        exact ⟨s.extract (k + 1) s.size, by rw [R.out.1]; rfl, ⟨fun _ => R.out.2, by rw [ByteArray.size_extract]; omega⟩, by repeat (first | exact hb | apply Bl.drewN | apply Bl.drew)⟩
    · obtain rfl : k = s.size := by omega
      have dl : decide (s.size < s.size) = false := decide_eq_false (by omega)
      have R := Lib.hid (show valueOk s = false by
        have h := hall.out
        rw [List.take_of_length_le (by rw [size_len]; omega)] at h
        unfold valueOk
        rw [VH.out, if_neg (by rw [all_contains _ _ h]; decide)])
      go_wp2
      repeat (go_quiet (fail); try go_wp2)
      go_ret2
      exact ⟨s, by rw [R.out]; rfl, ⟨fun h => (by rw [R.out] at h; cases h), Nat.le_refl _⟩, by repeat (first | exact hb | apply Bl.drewN | apply Bl.drew)⟩

theorem value_bare (s : ByteArray) (h1 : (s.data.toList.headD 0 == 34) = false) (h2 : (s.data.toList.headD 0 == 39) = false) (k : Nat) (hk : k ≤ s.size) (hall : (s.data.toList.take k).all bareB = true) (hs : ∀ a, s.data.toList[k]? = some a → bareB a = false) :
    valueOk s = decide (0 < k) ∧ s.extract k s.size = valueT s := by
  obtain ⟨q1, q2⟩ := value_q3 s h1 h2
  have e := dropWhile_stop bareB s.data.toList k (by rw [size_len]; exact hk) hall hs
  have hz : (dropT bareB s).size = s.size - k := by unfold dropT; rw [mkB_size, e, List.length_drop, size_len]
  constructor
  · rw [q1, hz]
    rcases Nat.eq_zero_or_pos k with h0 | h0
    · rw [decide_eq_false (by omega), decide_eq_false (by omega)]
    · rw [decide_eq_true (by omega), decide_eq_true h0]
  · rw [q2]; refine str_eq ?_; rw [Lib.extract_to_end]; unfold dropT; rw [mkB_data, e]

set_option maxRecDepth 100000 in
set_option maxHeartbeats 4000000 in
theorem r08value_plain (s : ByteArray) (w : World) (hs : s.size ≤ 1000000) (h34 : (s.data.toList.headD 0 == 34) = false) (h39 : (s.data.toList.headD 0 == 39) = false) :
    Calls Tryd.prog 76 #[.string s] w fun e w' => ∃ X : ByteArray, e = .returned (.tuple #[.string X, .bool (valueOk s)]) ∧ ValR s X ∧ Bl w w' := by
  rcases Nat.eq_zero_or_pos s.size with e0 | hp
  · obtain rfl := str_nil e0
    go_enter Tryd.func76, Tryd.ntmps76
    go_wp2
    go_loopw [5] (fun iv wr => iv = .int .i64 0 ∧ Bl w wr) (fun _ _ => 0)
    case atStart => exact ⟨rfl, Bl.refl _⟩
    case round =>
      obtain ⟨rfl, hb⟩ := hrel
      go_wp2
      repeat (go_quiet (fail); try go_wp2)
      go_ret2
      exact ⟨⟨#[]⟩, rfl, ⟨fun h => (by cases h), Nat.le_refl _⟩, by repeat (first | exact hb | apply Bl.drewN | apply Bl.drew)⟩
  have e1 := isEmpty_false hp
  have hd := headD_at s hp
  have E34 := eq_of_byte (b := s[0]) (c := 34) 34 rfl
  have E39 := eq_of_byte (b := s[0]) (c := 39) 39 rfl
  rw [← hd, h34] at E34
  rw [← hd, h39] at E39
  rw [hd] at E34 E39
  have VB := Lib.hid (value_bare s h34 h39)
  clear hd h34 h39
  go_enter Tryd.func76, Tryd.ntmps76
  go_wp2
  clear E34 E39
  go_loopw [5] (fun iv wr => ∃ k : Nat, k ≤ s.size ∧ iv = .int .i64 k ∧ Bl w wr ∧ Hid ((s.data.toList.take k).all bareB = true)) (fun iv _ => s.size - (intOf iv).toNat)
  case atStart => exact ⟨0, Nat.zero_le _, rfl, Bl.refl _, Lib.hid (by simp)⟩
  case round =>
    obtain ⟨k, hk, rfl, hb, hall⟩ := hrel
    by_cases hlt : k < s.size
    · have dl : decide (k < s.size) = true := decide_eq_true hlt
      have HK := Lib.hid (take_succ_all s bareB k hlt)
      have HB := Lib.hid (bare_list s[k])
      have AT := Lib.hid (at_some s k hlt)
      have FIN : bareB s[k] = false → Hid (valueOk s = decide (0 < k) ∧ s.extract k s.size = valueT s) := fun hf =>
        Lib.hid (VB.out k hk hall.out (fun a ha => by rw [Option.some.inj (ha.symm.trans AT.out)]; exact hf))
      cases hw : whiteI (s[k].toNat : Int) with
      | true =>
        have R := FIN (by rw [HB.out, hw]; simp)
        go_wp2_with (first | (go_at_call 77; (with_reducible refine (r08white_any _ _).mono ?_); rintro e w' ⟨rfl, rfl⟩))
        repeat (go_quiet (fail); try go_wp2)
        go_ret2
        exact ⟨s.extract k s.size, by rw [R.out.1]; first | rfl | simp, ⟨fun _ => R.out.2, by rw [ByteArray.size_extract]; omega⟩, by repeat (first | exact hb | apply Bl.drewN | apply Bl.drew)⟩
      | false =>
        have n34 : ((s[k].toNat : Int) != 34) = !((s[k].toNat : Int) == 34) := rfl
        cases q34 : ((s[k].toNat : Int) == 34) with
        | true =>
          rw [q34] at n34
          have R := FIN (by rw [HB.out, hw, q34]; simp)
          go_wp2_with (first | (go_at_call 77; (with_reducible refine (r08white_any _ _).mono ?_); rintro e w' ⟨rfl, rfl⟩))
          repeat (go_quiet (fail); try go_wp2)
          go_ret2
          exact ⟨s.extract k s.size, by rw [R.out.1]; first | rfl | simp, ⟨fun _ => R.out.2, by rw [ByteArray.size_extract]; omega⟩, by repeat (first | exact hb | apply Bl.drewN | apply Bl.drew)⟩
        | false =>
          rw [q34] at n34
          have n39 : ((s[k].toNat : Int) != 39) = !((s[k].toNat : Int) == 39) := rfl
          cases q39 : ((s[k].toNat : Int) == 39) with
          | true =>
            rw [q39] at n39
            have R := FIN (by rw [HB.out, hw, q34, q39]; simp)
            go_wp2_with (first | (go_at_call 77; (with_reducible refine (r08white_any _ _).mono ?_); rintro e w' ⟨rfl, rfl⟩))
            repeat (go_quiet (fail); try go_wp2)
            go_ret2
            exact ⟨s.extract k s.size, by rw [R.out.1]; first | rfl | simp, ⟨fun _ => R.out.2, by rw [ByteArray.size_extract]; omega⟩, by repeat (first | exact hb | apply Bl.drewN | apply Bl.drew)⟩
          | false =>
            rw [q39] at n39
            have n61 : ((s[k].toNat : Int) != 61) = !((s[k].toNat : Int) == 61) := rfl
            cases q61 : ((s[k].toNat : Int) == 61) with
            | true =>
              rw [q61] at n61
              have R := FIN (by rw [HB.out, hw, q34, q39, q61]; simp)
              go_wp2_with (first | (go_at_call 77; (with_reducible refine (r08white_any _ _).mono ?_); rintro e w' ⟨rfl, rfl⟩))
              repeat (go_quiet (fail); try go_wp2)
              go_ret2
              exact ⟨s.extract k s.size, by rw [R.out.1]; first | rfl | simp, ⟨fun _ => R.out.2, by rw [ByteArray.size_extract]; omega⟩, by repeat (first | exact hb | apply Bl.drewN | apply Bl.drew)⟩
            | false =>
              rw [q61] at n61
              have n60 : ((s[k].toNat : Int) != 60) = !((s[k].toNat : Int) == 60) := rfl
              cases q60 : ((s[k].toNat : Int) == 60) with
              | true =>
                rw [q60] at n60
                have R := FIN (by rw [HB.out, hw, q34, q39, q61, q60]; simp)
                go_wp2_with (first | (go_at_call 77; (with_reducible refine (r08white_any _ _).mono ?_); rintro e w' ⟨rfl, rfl⟩))
                repeat (go_quiet (fail); try go_wp2)
                go_ret2
                exact ⟨s.extract k s.size, by rw [R.out.1]; first | rfl | simp, ⟨fun _ => R.out.2, by rw [ByteArray.size_extract]; omega⟩, by repeat (first | exact hb | apply Bl.drewN | apply Bl.drew)⟩
              | false =>
                rw [q60] at n60
                have n62 : ((s[k].toNat : Int) != 62) = !((s[k].toNat : Int) == 62) := rfl
                cases q62 : ((s[k].toNat : Int) == 62) with
                | true =>
                  rw [q62] at n62
                  have R := FIN (by rw [HB.out, hw, q34, q39, q61, q60, q62]; simp)
                  go_wp2_with (first | (go_at_call 77; (with_reducible refine (r08white_any _ _).mono ?_); rintro e w' ⟨rfl, rfl⟩))
                  repeat (go_quiet (fail); try go_wp2)
                  go_ret2
                  exact ⟨s.extract k s.size, by rw [R.out.1]; first | rfl | simp, ⟨fun _ => R.out.2, by rw [ByteArray.size_extract]; omega⟩, by repeat (first | exact hb | apply Bl.drewN | apply Bl.drew)⟩
                | false =>
                  rw [q62] at n62
                  have n96 : ((s[k].toNat : Int) != 96) = !((s[k].toNat : Int) == 96) := rfl
                  cases q96 : ((s[k].toNat : Int) == 96) with
                  | true =>
                    rw [q96] at n96
                    have R := FIN (by rw [HB.out, hw, q34, q39, q61, q60, q62, q96]; simp)
                    go_wp2_with (first | (go_at_call 77; (with_reducible refine (r08white_any _ _).mono ?_); rintro e w' ⟨rfl, rfl⟩))
                    repeat (go_quiet (fail); try go_wp2)
                    go_ret2
                    exact ⟨s.extract k s.size, by rw [R.out.1]; first | rfl | simp, ⟨fun _ => R.out.2, by rw [ByteArray.size_extract]; omega⟩, by repeat (first | exact hb | apply Bl.drewN | apply Bl.drew)⟩
                  | false =>
                    rw [q96] at n96
                    go_wp2_with (first | (go_at_call 77; (with_reducible refine (r08white_any _ _).mono ?_); rintro e w' ⟨rfl, rfl⟩))
                    repeat (go_quiet (fail); try go_wp2)
                    go_roundw
                    case rel => exact ⟨k + 1, by omega, by go_num, (by repeat (first | exact hb | apply Bl.drewN | apply Bl.drew)), Lib.hid (by rw [HK.out, hall.out, HB.out, hw, q34, q39, q61, q60, q62, q96]; rfl)⟩
                    case measure => simp [intOf]; omega
    · obtain rfl : k = s.size := by omega
      have dl : decide (s.size < s.size) = false := decide_eq_false (by omega)
      have R := Lib.hid (VB.out s.size (Nat.le_refl _) hall.out (fun a ha => by rw [at_none s s.size (by omega)] at ha; cases ha))
      go_wp2
      repeat (go_quiet (fail); try go_wp2)
      go_ret2
      have hx : s.extract s.size s.size = ByteArray.empty := by
        refine str_eq ?_
        rw [Lib.extract_to_end, List.drop_of_length_le (by rw [size_len]; omega)]; rfl
      exact ⟨ByteArray.empty, by rw [R.out.1, decide_eq_true hp]; rfl, ⟨fun _ => hx.symm.trans R.out.2, Nat.zero_le _⟩, by repeat (first | exact hb | apply Bl.drewN | apply Bl.drew)⟩

theorem r08value_any (s : ByteArray) (w : World) (hs : s.size ≤ 1000000) :
    Calls Tryd.prog 76 #[.string s] w fun e w' => ∃ X : ByteArray, e = .returned (.tuple #[.string X, .bool (valueOk s)]) ∧ ValR s X ∧ Bl w w' := by
  have hp : ∀ c : UInt8, c ≠ 0 → (s.data.toList.headD 0 == c) = true → 0 < s.size := by
    intro c hc h
    rcases Nat.eq_zero_or_pos s.size with e | e
    · obtain rfl := str_nil e
      simp at h; exact absurd h.symm hc
    · exact e
  cases h1 : (s.data.toList.headD 0 == 34) with
  | true => exact r08value_q1 s w hs (hp 34 (by decide) h1) h1
  | false =>
    cases h2 : (s.data.toList.headD 0 == 39) with
    | true => exact r08value_q2 s w hs (hp 39 (by decide) h2) h2
    | false => exact r08value_plain s w hs h1 h2

end Go.Proofs.YtgamlckdjfjobaaDoor
