/- The contract of the reference's address. -/
import Derived.Test.YtgamlckdjfjobaaDoorRef2
import Derived.Test.YtgamlckdjfjobaaDoorPlain12
namespace Go.Proofs.YtgamlckdjfjobaaDoor
open Go.RowKit

/-- May a text be the beginning of a scheme? -/
def preA : List UInt8 → Bool
  | [] => true
  | a :: m => letterI (a.toNat : Int) && m.all (wordB [43, 46, 45])
theorem preA_snoc (l : List UInt8) (x : UInt8) : preA (l ++ [x]) = (preA l && (if l = [] then letterI (x.toNat : Int) else wordB [43, 46, 45] x)) := by
  cases l with
  | nil => simp [preA]
  | cons a m => simp [preA, Bool.and_assoc]
theorem take_nil_iff (s : ByteArray) (k : Nat) (h : k < s.size) : s.data.toList.take k = [] ↔ k = 0 := by
  constructor
  · intro e
    have := congrArg List.length e
    rw [List.length_take, size_len] at this
    simp only [List.length_nil] at this; omega
  · rintro rfl; rfl
theorem preA_step (s : ByteArray) (k : Nat) (h : k < s.size) : preA (s.data.toList.take (k + 1)) = (preA (s.data.toList.take k) && (if k = 0 then letterI (s[k].toNat : Int) else wordB [43, 46, 45] s[k])) := by
  rw [List.take_succ_eq_append_getElem (by simpa using h), preA_snoc]
  have e : s.data.toList[k]'(by simpa using h) = s[k] := rfl
  rw [e]
  congr 1
  by_cases h0 : k = 0
  · rw [if_pos h0, if_pos ((take_nil_iff s k h).mpr h0)]
  · rw [if_neg h0, if_neg (fun c => h0 ((take_nil_iff s k h).mp c))]
theorem word_scheme (b : UInt8) : wordB [43, 46, 45] b = (letterI (b.toNat : Int) || digitI (b.toNat : Int) || ((b.toNat : Int) == 43) || ((b.toNat : Int) == 46) || ((b.toNat : Int) == 45)) := by
  unfold wordB
  rw [eq_of_byte (c := 43) 43 rfl, eq_of_byte (c := 46) 46 rfl, eq_of_byte (c := 45) 45 rfl]
  simp only [List.contains_cons, List.contains_nil, Bool.or_false, Bool.or_assoc]
theorem colon_no : wordB [43, 46, 45] 58 = false := by decide
theorem takeWhile_app0' {α : Type} (p : α → Bool) : ∀ (Q : List α) (c : α) (u : List α), (∀ x ∈ Q, p x = true) → p c = false → (Q ++ c :: u).takeWhile p = Q
  | [], c, u, _, hc => by simp [hc]
  | a :: Q, c, u, h, hc => by
    have h1 : p a = true := h a (by simp)
    rw [List.cons_append, List.takeWhile_cons, if_pos h1, takeWhile_app0' p Q c u (fun x hx => h x (List.mem_cons_of_mem _ hx)) hc]
theorem preA_mem {l : List UInt8} (h : preA l = true) : ∀ x ∈ l, (x != 58) = true := by
  intro x hx
  simp; rintro rfl
  cases l with
  | nil => cases hx
  | cons a m =>
    unfold preA at h
    rw [Bool.and_eq_true] at h
    rcases List.mem_cons.mp hx with rfl | hx
    · exact absurd h.1 (by decide)
    · have := (List.all_eq_true.mp h.2) 58 hx
      rw [colon_no] at this; cases this
theorem preA_all {l : List UInt8} (h : preA l = true) : allL l (wordB [43, 46, 45]) = true := by
  unfold allL
  cases l with
  | nil => rfl
  | cons a m =>
    unfold preA at h
    rw [Bool.and_eq_true] at h
    rw [List.all_cons, h.2, Bool.and_true]
    unfold wordB; rw [h.1]; rfl
theorem preA_head {l : List UInt8} (h : preA l = true) (hl : 1 ≤ l.length) : letterI ((l.headD 0).toNat : Int) = true := by
  cases l with
  | nil => simp at hl
  | cons a m => unfold preA at h; rw [Bool.and_eq_true] at h; exact h.1

/-- At the place where the scheme ends. -/
theorem address_colon (l : List UInt8) (k : Nat) (hp : preA (l.take k) = true) (hk : l[k]? = some 58) : addressL l = (decide (2 ≤ k) && decide (k ≤ 32) && (l.drop k).all restB) := by
  have hlt := (List.getElem?_eq_some_iff.mp hk).1
  have e : l = l.take k ++ 58 :: l.drop (k + 1) := by
    have h1 := List.take_append_drop k l
    rw [List.drop_eq_getElem_cons hlt, (List.getElem?_eq_some_iff.mp hk).2] at h1
    exact h1.symm
  have hm := preA_mem hp
  have ht : l.takeWhile (· != 58) = l.take k := by
    conv => lhs; rw [e]
    exact takeWhile_app0' _ _ _ _ hm rfl
  have hd : l.dropWhile (· != 58) = 58 :: l.drop (k + 1) := by
    conv => lhs; rw [e]
    rw [List.dropWhile_append_of_pos hm]; rfl
  have hc : l.contains 58 = true := by rw [e]; simp
  have hlen : (l.take k).length = k := by rw [List.length_take]; omega
  have hdr : (l.drop k).all restB = (l.drop (k + 1)).all restB := by
    rw [List.drop_eq_getElem_cons hlt, (List.getElem?_eq_some_iff.mp hk).2, List.all_cons]
    have : restB 58 = true := by decide
    rw [this, Bool.true_and]
  unfold addressL
  rw [hc, ht, hd, hlen, preA_all hp, List.tail_cons, hdr, Bool.true_and]
  by_cases h2 : 2 ≤ k
  · rw [preA_head hp (by omega)]; simp [allL]
  · rw [decide_eq_false h2]; simp
theorem address_other (l : List UInt8) (k : Nat) (hp : preA (l.take k) = true) (hk : l[k]? ≠ some 58) (hstop : ∀ a, l[k]? = some a → (if k = 0 then letterI (a.toNat : Int) else wordB [43, 46, 45] a) = false) : addressL l = false := by
  cases ha : addressL l with
  | false => rfl
  | true =>
    exfalso
    unfold addressL at ha
    rw [Bool.and_eq_true, Bool.and_eq_true, Bool.and_eq_true, Bool.and_eq_true, Bool.and_eq_true] at ha
    obtain ⟨hc, ⟨⟨⟨h2, _⟩, hl⟩, hall⟩, _⟩ := ha
    have h2' : 2 ≤ (l.takeWhile (· != 58)).length := of_decide_eq_true h2
    have hat := drop_at hc
    obtain ⟨p, hpe⟩ : ∃ p, (l.takeWhile (· != 58)).length = p := ⟨_, rfl⟩
    rw [hpe] at hat h2'
    have hlp : l[p]? = some 58 := by
      have := congrArg List.head? hat
      rw [List.head?_drop] at this; exact this
    rcases Nat.lt_trichotomy p k with h | h | h
    · have hm := preA_mem hp
      have : (58 : UInt8) ∈ l.take k := by
        rw [List.mem_iff_getElem?]
        exact ⟨p, by rw [List.getElem?_take, if_pos h]; exact hlp⟩
      have := hm 58 this; simp at this
    · rw [h] at hlp; exact hk hlp
    · have hkl : k < l.length := by
        have := (List.getElem?_eq_some_iff.mp hlp).1; omega
      have hks : l[k]? = some l[k] := List.getElem?_eq_getElem hkl
      have hmem : l[k] ∈ l.takeWhile (· != 58) := by
        rw [← takeWhile_take, hpe, List.mem_iff_getElem?]
        exact ⟨k, by rw [List.getElem?_take, if_pos h]; exact hks⟩
      have hw := (List.all_eq_true.mp hall) _ hmem
      have hst := hstop l[k] hks
      by_cases h0 : k = 0
      · subst h0
        rw [if_pos rfl] at hst
        have hh : (l.takeWhile (· != 58)).headD 0 = l[0] := by
          rw [← takeWhile_take, hpe, List.headD_eq_head?_getD, List.head?_take, if_neg (by omega), List.head?_eq_getElem?, hks]; rfl
        rw [hh, hst] at hl; cases hl
      · rw [if_neg h0, hw] at hst; cases hst

theorem address_end (l : List UInt8) (k : Nat) (hp : preA (l.take k) = true) (hstop : ∀ a, l[k]? = some a → (if k = 0 then letterI (a.toNat : Int) else wordB [43, 46, 45] a) = false) :
    addressL l = (decide (l[k]? = some 58) && (decide (2 ≤ k) && decide (k ≤ 32) && (l.drop k).all restB)) := by
  by_cases h : l[k]? = some 58
  · rw [address_colon l k hp h, decide_eq_true h, Bool.true_and]
  · rw [address_other l k hp h hstop, decide_eq_false h]; rfl
theorem drop_take_succ (s : ByteArray) (p : UInt8 → Bool) (k j : Nat) (hkj : k ≤ j) (h : j < s.size) : ((s.data.toList.drop k).take (j + 1 - k)).all p = (((s.data.toList.drop k).take (j - k)).all p && p s[j]) := by
  have e : j + 1 - k = (j - k) + 1 := by omega
  have hl : j - k < (s.data.toList.drop k).length := by rw [List.length_drop, size_len]; omega
  have hx : (s.data.toList.drop k)[j - k] = s[j] := by
    rw [List.getElem_drop]
    have : k + (j - k) = j := by omega
    simp only [this]; rfl
  rw [e, List.take_succ_eq_append_getElem hl, List.all_append, hx]; simp
theorem drop_take_no (s : ByteArray) (p : UInt8 → Bool) (k j : Nat) (hkj : k ≤ j) (h : j < s.size) (hp : p s[j] = false) : (s.data.toList.drop k).all p = false := by
  rw [List.all_eq_false]
  refine ⟨s[j], ?_, by rw [hp]; decide⟩
  rw [List.mem_iff_getElem?]
  exact ⟨j - k, by rw [List.getElem?_drop, show k + (j - k) = j by omega]; exact at_some s j h⟩
theorem rest_eq (b : UInt8) : restB b = (!decide ((b.toNat : Int) ≤ 32) && !((b.toNat : Int) == 127) && !((b.toNat : Int) == 60) && !((b.toNat : Int) == 62)) := by
  unfold restB
  have e1 : decide (32 < (b.toNat : Int)) = !decide ((b.toNat : Int) ≤ 32) := by
    rw [← decide_not]; congr 1; rw [Int.not_le]
  have e : ∀ n : Int, decide ((b.toNat : Int) ≠ n) = !((b.toNat : Int) == n) := by intro n; rw [Bool.eq_iff_iff]; simp
  rw [e1, e, e, e]

set_option maxRecDepth 100000 in
set_option maxHeartbeats 4000000 in
theorem r12address_any (s : ByteArray) (w : World) (hs : s.size ≤ 1000000) :
    Calls Tryd.prog 23 #[.string s] w fun e w' => e = .returned (.bool (addressL s.data.toList)) ∧ Bl w w' := by
  go_enter Tryd.func23, Tryd.ntmps23
  go_wp2
  go_loopw [3] (fun i wr => ∃ k : Nat, k ≤ s.size ∧ i = .int .i64 k ∧ Bl w wr ∧ Hid (preA (s.data.toList.take k) = true)) (fun i _ => s.size - (intOf i).toNat)
  case atStart => exact ⟨0, Nat.zero_le _, rfl, Bl.refl _, Lib.hid rfl⟩
  case round =>
    obtain ⟨k, hk, rfl, hb, hall⟩ := hrel
    by_cases hlt : k < s.size
    · have HK := Lib.hid (preA_step s k hlt)
      have HW := Lib.hid (word_scheme s[k])
      have AT := Lib.hid (at_some s k hlt)
      have dk : decide (k < s.size) = true := decide_eq_true hlt
      cases hl : letterI (s[k].toNat : Int) with
      | true =>
        go_wp2_with (first | (go_at_call 31; (with_reducible refine (r12letter_any _ _).mono ?_); rintro e w' ⟨rfl, rfl⟩) | (go_at_call 43; (with_reducible refine (r12digit_any _ _).mono ?_); rintro e w' ⟨rfl, rfl⟩))
        go_roundw
        case rel => exact ⟨k + 1, by omega, by go_num, hb, Lib.hid (by rw [HK.out, hall.out, Bool.true_and]; split <;> first | exact hl | (rw [HW.out, hl]; rfl))⟩
        case measure => simp [intOf]; omega
      | false =>
        by_cases h0 : k = 0
        · subst h0
          have R := Lib.hid (address_end s.data.toList 0 hall.out (fun a ha => by rw [if_pos rfl, Option.some.inj (ha.symm.trans AT.out)]; exact hl))
          go_wp2_with (first | (go_at_call 31; (with_reducible refine (r12letter_any _ _).mono ?_); rintro e w' ⟨rfl, rfl⟩) | (go_at_call 43; (with_reducible refine (r12digit_any _ _).mono ?_); rintro e w' ⟨rfl, rfl⟩))
          go_ret
          exact ⟨ret_bool (by rw [R.out]; simp), hb⟩
        · have dk0 : decide (0 < k) = true := decide_eq_true (by omega)
          have dk1 : decide ((0 : Int) < (k : Int)) = true := decide_eq_true (by omega)
          rw [hl] at HW
          cases hdg : digitI (s[k].toNat : Int) with
          | true =>
            go_wp2_with (first | (go_at_call 31; (with_reducible refine (r12letter_any _ _).mono ?_); rintro e w' ⟨rfl, rfl⟩) | (go_at_call 43; (with_reducible refine (r12digit_any _ _).mono ?_); rintro e w' ⟨rfl, rfl⟩))
            go_roundw
            case rel => exact ⟨k + 1, by omega, by go_num, hb, Lib.hid (by rw [HK.out, hall.out, Bool.true_and]; rw [if_neg h0, HW.out, hdg]; rfl)⟩
            case measure => simp [intOf]; omega
          | false =>
            cases c43 : ((s[k].toNat : Int) == 43) with
            | true =>
              go_wp2_with (first | (go_at_call 31; (with_reducible refine (r12letter_any _ _).mono ?_); rintro e w' ⟨rfl, rfl⟩) | (go_at_call 43; (with_reducible refine (r12digit_any _ _).mono ?_); rintro e w' ⟨rfl, rfl⟩))
              go_roundw
              case rel => exact ⟨k + 1, by omega, by go_num, hb, Lib.hid (by rw [HK.out, hall.out, Bool.true_and]; rw [if_neg h0, HW.out, hdg, c43]; simp)⟩
              case measure => simp [intOf]; omega
            | false =>
              cases c46 : ((s[k].toNat : Int) == 46) with
              | true =>
                go_wp2_with (first | (go_at_call 31; (with_reducible refine (r12letter_any _ _).mono ?_); rintro e w' ⟨rfl, rfl⟩) | (go_at_call 43; (with_reducible refine (r12digit_any _ _).mono ?_); rintro e w' ⟨rfl, rfl⟩))
                go_roundw
                case rel => exact ⟨k + 1, by omega, by go_num, hb, Lib.hid (by rw [HK.out, hall.out, Bool.true_and]; rw [if_neg h0, HW.out, hdg, c43, c46]; simp)⟩
                case measure => simp [intOf]; omega
              | false =>
                cases c45 : ((s[k].toNat : Int) == 45) with
                | true =>
                  go_wp2_with (first | (go_at_call 31; (with_reducible refine (r12letter_any _ _).mono ?_); rintro e w' ⟨rfl, rfl⟩) | (go_at_call 43; (with_reducible refine (r12digit_any _ _).mono ?_); rintro e w' ⟨rfl, rfl⟩))
                  go_roundw
                  case rel => exact ⟨k + 1, by omega, by go_num, hb, Lib.hid (by rw [HK.out, hall.out, Bool.true_and]; rw [if_neg h0, HW.out, hdg, c43, c46, c45]; simp)⟩
                  case measure => simp [intOf]; omega
                | false =>
                  have R := Lib.hid (address_end s.data.toList k hall.out (fun a ha => by rw [Option.some.inj (ha.symm.trans AT.out)]; rw [if_neg h0, HW.out, hdg, c43, c46, c45]; rfl))
                  have hc58 := eq_of_byte (b := s[k]) (c := 58) 58 rfl
                  have C58 := Lib.hid (show (decide (s.data.toList[k]? = some 58)) = ((s[k].toNat : Int) == 58) by rw [hc58, AT.out]; rw [Bool.eq_iff_iff]; simp)
                  clear hc58
                  have kne : ((k : Int) == (s.size : Int)) = false := beq_eq_false_iff_ne.2 (by omega)
                  rcases Nat.lt_or_ge k 2 with h2 | h2
                  · have d2 : decide ((k : Int) < 2) = true := decide_eq_true (by omega)
                    go_wp2_with (first | (go_at_call 31; (with_reducible refine (r12letter_any _ _).mono ?_); rintro e w' ⟨rfl, rfl⟩) | (go_at_call 43; (with_reducible refine (r12digit_any _ _).mono ?_); rintro e w' ⟨rfl, rfl⟩))
                    go_ret
                    exact ⟨ret_bool (by rw [R.out, decide_eq_false (by omega : ¬ 2 ≤ k)]; simp), hb⟩
                  have d2 : decide ((k : Int) < 2) = false := decide_eq_false (by omega)
                  rcases Nat.lt_or_ge 32 k with h32 | h32
                  · have d32 : decide ((32 : Int) < (k : Int)) = true := decide_eq_true (by omega)
                    go_wp2_with (first | (go_at_call 31; (with_reducible refine (r12letter_any _ _).mono ?_); rintro e w' ⟨rfl, rfl⟩) | (go_at_call 43; (with_reducible refine (r12digit_any _ _).mono ?_); rintro e w' ⟨rfl, rfl⟩))
                    go_ret
                    exact ⟨ret_bool (by rw [R.out, decide_eq_false (by omega : ¬ k ≤ 32)]; simp), hb⟩
                  have d32 : decide ((32 : Int) < (k : Int)) = false := decide_eq_false (by omega)
                  have b58 : ((s[k].toNat : Int) != 58) = !((s[k].toNat : Int) == 58) := rfl
                  cases h58 : ((s[k].toNat : Int) == 58) with
                  | false =>
                    rw [h58] at C58 b58
                    go_wp2_with (first | (go_at_call 31; (with_reducible refine (r12letter_any _ _).mono ?_); rintro e w' ⟨rfl, rfl⟩) | (go_at_call 43; (with_reducible refine (r12digit_any _ _).mono ?_); rintro e w' ⟨rfl, rfl⟩))
                    go_ret
                    exact ⟨ret_bool (by rw [R.out, C58.out]; rfl), hb⟩
                  | true =>
                    rw [h58] at C58 b58
                    have R2 := Lib.hid (show addressL s.data.toList = (s.data.toList.drop k).all restB by rw [R.out, C58.out, decide_eq_true h2, decide_eq_true h32]; rfl)
                    go_wp2_with (first | (go_at_call 31; (with_reducible refine (r12letter_any _ _).mono ?_); rintro e w' ⟨rfl, rfl⟩) | (go_at_call 43; (with_reducible refine (r12digit_any _ _).mono ?_); rintro e w' ⟨rfl, rfl⟩))
                    clear R C58 b58 h58
                    go_loopw [4] (fun i wr => ∃ j : Nat, k ≤ j ∧ j ≤ s.size ∧ i = .int .i64 j ∧ Bl w wr ∧ Hid (((s.data.toList.drop k).take (j - k)).all restB = true)) (fun i _ => s.size - (intOf i).toNat)
                    case atStart => exact ⟨k, Nat.le_refl _, hk, rfl, hb, Lib.hid (by simp)⟩
                    case round =>
                      clear hb
                      obtain ⟨j, hkj, hj, rfl, hb, hrs⟩ := hrel
                      by_cases hjl : j < s.size
                      · have HJ := Lib.hid (drop_take_succ s restB k j hkj hjl)
                        have HR := Lib.hid (rest_eq s[j])
                        have NO := Lib.hid (drop_take_no s restB k j hkj hjl)
                        have d0 : (0 : Int) ≤ (s[j].toNat : Int) := by omega
                        cases r1 : decide ((s[j].toNat : Int) ≤ 32) with
                        | true => go_wp2; go_ret; exact ⟨ret_bool (by rw [R2.out, NO.out (by rw [HR.out, r1]; rfl)]), hb⟩
                        | false =>
                          cases q127 : ((s[j].toNat : Int) == 127) with
                          | true => go_wp2; go_ret; exact ⟨ret_bool (by rw [R2.out, NO.out (by rw [HR.out, r1, q127]; simp)]), hb⟩
                          | false =>
                            cases q60 : ((s[j].toNat : Int) == 60) with
                            | true => go_wp2; go_ret; exact ⟨ret_bool (by rw [R2.out, NO.out (by rw [HR.out, r1, q127, q60]; simp)]), hb⟩
                            | false =>
                              cases q62 : ((s[j].toNat : Int) == 62) with
                              | true => go_wp2; go_ret; exact ⟨ret_bool (by rw [R2.out, NO.out (by rw [HR.out, r1, q127, q60, q62]; simp)]), hb⟩
                              | false =>
                                go_wp2
                                go_roundw
                                case rel => exact ⟨j + 1, by omega, by omega, by go_num, hb, Lib.hid (by rw [HJ.out, hrs.out, HR.out, r1, q127, q60, q62]; rfl)⟩
                                case measure => simp [intOf]; omega
                      · have F := Lib.hid (show (s.data.toList.drop k).all restB = true by
                          have h := hrs.out
                          rw [List.take_of_length_le (by rw [List.length_drop, size_len]; omega)] at h; exact h)
                        go_wp2; go_ret
                        exact ⟨ret_bool (by rw [R2.out, F.out]), hb⟩
    · obtain rfl : k = s.size := by omega
      have R := Lib.hid (address_end s.data.toList s.size hall.out (fun a ha => by rw [at_none s s.size (by omega)] at ha; cases ha))
      have C := Lib.hid (show decide (s.data.toList[s.size]? = some 58) = false by rw [at_none s s.size (by omega)]; rfl)
      rcases Nat.lt_or_ge s.size 2 with h2 | h2
      · have d2 : decide ((s.size : Int) < 2) = true := decide_eq_true (by omega)
        go_wp2
        go_ret
        exact ⟨ret_bool (by rw [R.out, C.out]; rfl), hb⟩
      have d2 : decide ((s.size : Int) < 2) = false := decide_eq_false (by omega)
      rcases Nat.lt_or_ge 32 s.size with h32 | h32
      · have d32 : decide ((32 : Int) < (s.size : Int)) = true := decide_eq_true (by omega)
        go_wp2
        go_ret
        exact ⟨ret_bool (by rw [R.out, C.out]; rfl), hb⟩
      have d32 : decide ((32 : Int) < (s.size : Int)) = false := decide_eq_false (by omega)
      go_wp2
      go_ret
      exact ⟨ret_bool (by rw [R.out, C.out]; rfl), hb⟩

end Go.Proofs.YtgamlckdjfjobaaDoor
