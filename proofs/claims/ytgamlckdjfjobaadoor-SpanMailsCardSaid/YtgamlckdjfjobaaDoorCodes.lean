/- SpanCodes: the walk of the law. -/
import Derived.Test.YtgamlckdjfjobaaDoorAwake
import Derived.Test.YtgamlckdjfjobaaDoorCodes12
import Derived.Test.YtgamlckdjfjobaaDoorShort
namespace Go.Proofs.YtgamlckdjfjobaaDoor
open Go.RowKit

theorem i64_and7 (n : Int) : bits .and .i64 n 7 = n % 8 := by
  have h7 : (BitVec.ofInt 64 7).toNat = 2 ^ 3 - 1 := by decide
  have key : (BitVec.ofInt 64 n &&& BitVec.ofInt 64 7).toNat = (n % ((2 ^ 64 : Nat) : Int)).toNat % 2 ^ 3 := by
    rw [BitVec.toNat_and, BitVec.toNat_ofInt, h7, Nat.and_two_pow_sub_one_eq_mod]
  show IntKind.i64.wrap ((BitVec.ofInt 64 n &&& BitVec.ofInt 64 7).toNat : Nat) = n % 8
  rw [key, IntKind.wrap_i64]
  omega
theorem cat_data (a s : ByteArray) : (a ++ s).data.toList = a.data.toList ++ s.data.toList := by simp
def repB (j : Nat) : ByteArray := mkB (List.replicate j 96)
theorem rep_snoc (j : Nat) : List.replicate (j + 1) (96 : UInt8) = List.replicate j 96 ++ [96] := List.replicate_succ'
theorem repB_succ (j : Nat) : repB j ++ (⟨#[96]⟩ : ByteArray) = repB (j + 1) := by
  refine str_eq ?_
  rw [cat_data]
  show List.replicate j 96 ++ [96] = List.replicate (j + 1) 96
  rw [rep_snoc]
theorem repB_size (j : Nat) : (repB j).size = j := by unfold repB; rw [mkB_size, List.length_replicate]
theorem codes_one_v (q : Nat) (s more : ByteArray) (h : Bare s.data.toList) (W : ByteArray) (hW : mkB (wantL s.data.toList) = W) :
    codeV (List.replicate (q + 1) 96 ++ (s.data.toList ++ (List.replicate (q + 1) 96 ++ 120 :: more.data.toList))) = .tuple #[.string W, .int .i64 ((s.size : Int) + 2 * ((q : Int) + 1))] := by
  unfold codeV
  rw [codes_one (q + 1) _ _ (by omega) h]
  have : ((s.data.toList.length + 2 * (q + 1) : Nat) : Int) = (s.size : Int) + 2 * ((q : Int) + 1) := by rw [size_len]; omega
  simp only [hW, this]
theorem allBlank_succ (s : ByteArray) (k : Nat) (h : k < s.size) : (s.data.toList.take (k + 1)).all (· == 32) = ((s.data.toList.take k).all (· == 32) && s[k] == 32) := take_succ_all s (· == 32) k h
def plainB (b : UInt8) : Bool := b != 96 && b != 10
theorem bare_of (s : ByteArray) (hp : 0 < s.size) (h : s.data.toList.all plainB = true) : Bare s.data.toList := by
  rw [List.all_eq_true] at h
  refine ⟨?_, ?_, ?_⟩
  · intro e; have := size_len s; rw [e] at this; simp at this; omega
  · cases e : s.data.toList.contains 96 with
    | false => rfl
    | true => have : (96 : UInt8) ∈ s.data.toList := by simpa using e
              have := h 96 this; exact absurd this (by decide)
  · cases e : s.data.toList.contains 10 with
    | false => rfl
    | true => have : (10 : UInt8) ∈ s.data.toList := by simpa using e
              have := h 10 this; exact absurd this (by decide)
theorem want_self (s : ByteArray) (h : (s.data.toList.any (· != 32) && s.data.toList.headD 0 == 32 && s.data.toList.getLastD 0 == 32) = false) : mkB (wantL s.data.toList) = s := by
  unfold wantL; rw [if_neg (by rw [h]; decide)]; exact mkB_self s
theorem want_mid (s : ByteArray) (h : (s.data.toList.any (· != 32) && s.data.toList.headD 0 == 32 && s.data.toList.getLastD 0 == 32) = true) : mkB (wantL s.data.toList) = s.extract 1 (s.size - 1) := by
  unfold wantL; rw [if_pos h]; exact (extract_mid s).symm
theorem any_not_all (l : List UInt8) : l.any (· != 32) = !l.all (· == 32) := by
  rw [List.not_all_eq_any_not]; rfl

set_option maxRecDepth 100000 in
set_option maxHeartbeats 4000000 in
theorem codes_walk (s : ByteArray) (n : Int) (more : ByteArray) (w : World) (hm : MaxAt w) (hs : s.size ≤ 140737488351232) (_hn : (Lit.int .i64 n).wf = true) (hs2 : more.size ≤ 140737488351232) :
    Calls Tryd.prog 5 #[.string s, .int .i64 n, .string more] w fun e w' => e = .returned (.bool true) ∧ Bl w w' := by
  have HA := awake_any w hm
  rcases Nat.eq_zero_or_pos s.size with e0 | hp
  · obtain rfl := str_nil e0
    go_enter Tryd.func5, Tryd.ntmps5
    go_wp2_with fail
    refine HA.mono ?_
    rintro e w1 ⟨rfl, hb1⟩
    go_wp2
    go_ret
    exact ⟨rfl, hb1⟩
  have hz := isEmpty_false hp
  rcases Nat.lt_or_ge 500 s.size with hl | hl
  · have hd : decide ((500 : Int) < (s.size : Int)) = true := decide_eq_true (by omega)
    clear hl
    go_enter Tryd.func5, Tryd.ntmps5
    go_wp2_with fail
    refine HA.mono ?_
    rintro e w1 ⟨rfl, hb1⟩
    go_wp2
    go_ret
    exact ⟨rfl, hb1⟩
  have hd : decide ((500 : Int) < (s.size : Int)) = false := decide_eq_false (by omega)
  rcases Nat.lt_or_ge 200 more.size with hl2 | hl2
  · have hd2 : decide ((200 : Int) < (more.size : Int)) = true := decide_eq_true (by omega)
    clear hl hl2
    go_enter Tryd.func5, Tryd.ntmps5
    go_wp2_with fail
    refine HA.mono ?_
    rintro e w1 ⟨rfl, hb1⟩
    go_wp2
    go_ret
    exact ⟨rfl, hb1⟩
  have hd2 : decide ((200 : Int) < (more.size : Int)) = false := decide_eq_false (by omega)
  obtain ⟨q, hq⟩ : ∃ q : Nat, bits .and .i64 n 7 = (q : Int) := ⟨(n % 8).toNat, by rw [i64_and7]; omega⟩
  have hq7 : q ≤ 7 := by have := i64_and7 n; omega
  go_enter Tryd.func5, Tryd.ntmps5
  go_wp2_with fail
  refine HA.mono ?_
  rintro e w1 ⟨rfl, hb1⟩
  clear HA
  go_wp2
  go_loopw [8, 9] (fun b i wr => ∃ k : Nat, k ≤ s.size ∧ i = .int .i64 k ∧ (∃ c : Bool, b = .bool c ∧ Hid ((s.data.toList.take k).all (· == 32) = c)) ∧ Bl w wr ∧ Hid ((s.data.toList.take k).all plainB = true)) (fun _ i _ => s.size - (intOf i).toNat)
  case atStart => exact ⟨0, Nat.zero_le _, rfl, ⟨true, rfl, Lib.hid (by simp)⟩, hb1, Lib.hid (by simp)⟩
  case round =>
    clear hb1
    obtain ⟨k, hk, rfl, ⟨c, rfl, hbl⟩, hb, hall⟩ := hrel
    by_cases hlt : k < s.size
    · have HK := Lib.hid (take_succ_all s plainB k hlt)
      have HB := Lib.hid (allBlank_succ s k hlt)
      have E1 := Lib.hid (eq_of_byte (b := s[k]) (c := 96) 96 rfl)
      have E2 := Lib.hid (eq_of_byte (b := s[k]) (c := 10) 10 rfl)
      have E3 := Lib.hid (eq_of_byte (b := s[k]) (c := 32) 32 rfl)
      cases h96 : ((s[k].toNat : Int) == 96) with
      | true =>
        go_wp2
        go_ret
        exact ⟨rfl, hb⟩
      | false =>
        cases h10 : ((s[k].toNat : Int) == 10) with
        | true =>
          go_wp2
          go_ret
          exact ⟨rfl, hb⟩
        | false =>
          have P := Lib.hid (show plainB s[k] = true by unfold plainB; rw [bne, bne, ← E1.out, ← E2.out, h96, h10]; rfl)
          cases c with
          | false =>
            go_wp2
            go_roundw
            case rel => exact ⟨k + 1, by omega, by go_num, ⟨false, rfl, Lib.hid (by rw [HB.out, hbl.out]; rfl)⟩, hb, Lib.hid (by rw [HK.out, hall.out, P.out]; rfl)⟩
            case measure => simp [intOf]; omega
          | true =>
            cases h32 : ((s[k].toNat : Int) == 32) with
            | true =>
              go_wp2
              go_roundw
              case rel => exact ⟨k + 1, by omega, by go_num, ⟨true, rfl, Lib.hid (by rw [HB.out, hbl.out, ← E3.out, h32]; rfl)⟩, hb, Lib.hid (by rw [HK.out, hall.out, P.out]; rfl)⟩
              case measure => simp [intOf]; omega
            | false =>
              go_wp2
              go_roundw
              case rel => exact ⟨k + 1, by omega, by go_num, ⟨false, rfl, Lib.hid (by rw [HB.out, hbl.out, ← E3.out, h32]; rfl)⟩, hb, Lib.hid (by rw [HK.out, hall.out, P.out]; rfl)⟩
              case measure => simp [intOf]; omega
    · obtain rfl : k = s.size := by omega
      have hBare : Bare s.data.toList := by
        have h := hall.out
        rw [List.take_of_length_le (by rw [size_len]; omega)] at h
        exact bare_of s hp h
      have hA : s.data.toList.all (· == 32) = c := by
        have h := hbl.out
        rw [List.take_of_length_le (by rw [size_len]; omega)] at h
        exact h
      have hAny := any_not_all s.data.toList
      rw [hA] at hAny
      have hh := headD_at s hp
      have hg := getLastD_at s hp
      have F1 : ((s[0].toNat : Int) == 32) = (s.data.toList.headD 0 == 32) := by rw [hh]; exact eq_of_byte (c := 32) 32 rfl
      have F2 : ((s[s.size - 1].toNat : Int) == 32) = (s.data.toList.getLastD 0 == 32) := by rw [hg]; exact eq_of_byte (c := 32) 32 rfl
      clear hall hbl hA hlt hk
      cases c with
      | true =>
        have hW := want_self s (by rw [hAny]; simp)
        clear hAny hh hg F1 F2
        go_wp2
        go_loopw [10, 11] (fun t i wr => ∃ j : Nat, j ≤ q + 1 ∧ i = .int .i64 j ∧ t = .string (repB j) ∧ Bl w wr) (fun _ i _ => q + 1 - (intOf i).toNat)
        case atStart => exact ⟨0, Nat.zero_le _, rfl, rfl, hb⟩
        case round =>
          clear hb
          obtain ⟨j, hj, rfl, rfl, hb⟩ := hrel
          by_cases hjq : j ≤ q
          · have dj : decide ((j : Int) ≤ (q : Int)) = true := decide_eq_true (by omega)
            have ej := repB_succ j
            have zj : (repB j).size = j := repB_size j
            go_wp2
            go_roundw
            case rel => exact ⟨j + 1, by omega, by go_num, rfl, hb⟩
            case measure => simp [intOf]; omega
          · obtain rfl : j = q + 1 := by omega
            have dj : decide (((q : Int) + 1) ≤ (q : Int)) = false := decide_eq_false (by omega)
            clear hjq hj
            obtain ⟨T, hT⟩ : ∃ T, repB (q + 1) = T := ⟨_, rfl⟩
            have hTd : T.data.toList = List.replicate (q + 1) 96 := by rw [← hT]; rfl
            have hTs : T.size = q + 1 := by rw [← size_len, hTd, List.length_replicate]
            obtain ⟨X1, e1⟩ : ∃ X1, (((T ++ s) ++ T) ++ (⟨#[120]⟩ : ByteArray)) ++ more = X1 := ⟨_, rfl⟩
            obtain ⟨X2, e2⟩ : ∃ X2, ((T ++ s) ++ T) ++ (⟨#[96]⟩ : ByteArray) = X2 := ⟨_, rfl⟩
            obtain ⟨Y3, e4⟩ : ∃ Y3, X2 ++ s = Y3 := ⟨_, rfl⟩
            obtain ⟨X3, e3⟩ : ∃ X3, Y3 ++ T = X3 := ⟨_, rfl⟩
            have d1 : X1.data.toList = List.replicate (q + 1) 96 ++ (s.data.toList ++ (List.replicate (q + 1) 96 ++ 120 :: more.data.toList)) := by rw [← e1]; simp only [cat_data, hTd]; simp
            have d2 : X2.data.toList = List.replicate (q + 1) 96 ++ (s.data.toList ++ (List.replicate (q + 1 + 1) 96 ++ [])) := by rw [← e2]; simp only [cat_data, hTd, List.append_nil, rep_snoc (q + 1)]; simp
            have d3 : X3.data.toList = List.replicate (q + 1) 96 ++ (s.data.toList ++ (List.replicate (q + 1 + 1) 96 ++ (s.data.toList ++ (List.replicate (q + 1) 96 ++ [])))) := by rw [← e3, ← e4]; simp only [cat_data, hTd, d2]; simp
            have z1 : X1.size ≤ 1000000 := by rw [← size_len, d1]; simp only [List.length_append, List.length_cons, List.length_replicate, size_len]; omega
            have z2 : X2.size ≤ 1000000 := by rw [← size_len, d2]; simp only [List.length_append, List.length_nil, List.length_replicate, size_len]; omega
            have z3 : X3.size ≤ 1000000 := by rw [← size_len, d3]; simp only [List.length_append, List.length_nil, List.length_replicate, size_len]; omega
            have z4 : Y3.size ≤ 1000000 := by rw [← size_len, ← e4, cat_data, d2]; simp only [List.length_append, List.length_nil, List.length_replicate, size_len]; omega
            have c3 := codes_three (q + 1) s.data.toList (by omega) hBare
            obtain ⟨C3, hC3⟩ : ∃ C3, mkB (codeL X3.data.toList).1 = C3 := ⟨_, rfl⟩
            have H1 := code_is X1 (.tuple #[.string (s), .int .i64 ((s.size : Int) + 2 * ((q : Int) + 1))]) (by rw [d1]; exact codes_one_v q s more hBare _ (hW)) z1
            have H2 := code_is X2 (.tuple #[.string ⟨#[]⟩, .int .i64 0]) (by unfold codeV; rw [d2, codes_two (q + 1) _ (by omega) hBare]; rfl) z2
            have H3 := code_is X3 (.tuple #[.string C3, .int .i64 (2 * (s.size : Int) + 3 * ((q : Int) + 1) + 1)]) (by unfold codeV; rw [hC3, d3, c3.1, size_len]; simp) z3
            have hlt : decide (s.size < C3.size) = true := by refine decide_eq_true ?_; rw [← hC3, mkB_size, d3]; have := c3.2; rw [size_len] at this; omega
            clear hTd d1 d2 d3 z1 z3 c3 hC3
            go_wp2_with fail
            refine (H1 _ (hm.bl hb)).mono ?_
            rintro e w5 ⟨rfl, hc1⟩
            have hb1 := hb.trans hc1
            go_wp2_with fail
            refine (H2 _ (hm.bl hb1)).mono ?_
            rintro e w6 ⟨rfl, hc2⟩
            have hb2 := hb1.trans hc2
            go_wp2_with fail
            refine (H3 _ (hm.bl hb2)).mono ?_
            rintro e w7 ⟨rfl, hc3⟩
            have hb3 := hb2.trans hc3
            clear hc1 hc2 hc3 H1 H2 H3 hb hb1 hb2
            go_wp2
            go_ret
            exact ⟨by simp, hb3⟩
      | false =>
        cases h0 : ((s[0].toNat : Int) == 32) with
        | false =>
          have hW := want_self s (by rw [← F1, h0]; simp)
          clear hAny hh hg F1 F2
          go_wp2
          go_loopw [10, 11] (fun t i wr => ∃ j : Nat, j ≤ q + 1 ∧ i = .int .i64 j ∧ t = .string (repB j) ∧ Bl w wr) (fun _ i _ => q + 1 - (intOf i).toNat)
          case atStart => exact ⟨0, Nat.zero_le _, rfl, rfl, hb⟩
          case round =>
            clear hb
            obtain ⟨j, hj, rfl, rfl, hb⟩ := hrel
            by_cases hjq : j ≤ q
            · have dj : decide ((j : Int) ≤ (q : Int)) = true := decide_eq_true (by omega)
              have ej := repB_succ j
              have zj : (repB j).size = j := repB_size j
              go_wp2
              go_roundw
              case rel => exact ⟨j + 1, by omega, by go_num, rfl, hb⟩
              case measure => simp [intOf]; omega
            · obtain rfl : j = q + 1 := by omega
              have dj : decide (((q : Int) + 1) ≤ (q : Int)) = false := decide_eq_false (by omega)
              clear hjq hj
              obtain ⟨T, hT⟩ : ∃ T, repB (q + 1) = T := ⟨_, rfl⟩
              have hTd : T.data.toList = List.replicate (q + 1) 96 := by rw [← hT]; rfl
              have hTs : T.size = q + 1 := by rw [← size_len, hTd, List.length_replicate]
              obtain ⟨X1, e1⟩ : ∃ X1, (((T ++ s) ++ T) ++ (⟨#[120]⟩ : ByteArray)) ++ more = X1 := ⟨_, rfl⟩
              obtain ⟨X2, e2⟩ : ∃ X2, ((T ++ s) ++ T) ++ (⟨#[96]⟩ : ByteArray) = X2 := ⟨_, rfl⟩
              obtain ⟨Y3, e4⟩ : ∃ Y3, X2 ++ s = Y3 := ⟨_, rfl⟩
              obtain ⟨X3, e3⟩ : ∃ X3, Y3 ++ T = X3 := ⟨_, rfl⟩
              have d1 : X1.data.toList = List.replicate (q + 1) 96 ++ (s.data.toList ++ (List.replicate (q + 1) 96 ++ 120 :: more.data.toList)) := by rw [← e1]; simp only [cat_data, hTd]; simp
              have d2 : X2.data.toList = List.replicate (q + 1) 96 ++ (s.data.toList ++ (List.replicate (q + 1 + 1) 96 ++ [])) := by rw [← e2]; simp only [cat_data, hTd, List.append_nil, rep_snoc (q + 1)]; simp
              have d3 : X3.data.toList = List.replicate (q + 1) 96 ++ (s.data.toList ++ (List.replicate (q + 1 + 1) 96 ++ (s.data.toList ++ (List.replicate (q + 1) 96 ++ [])))) := by rw [← e3, ← e4]; simp only [cat_data, hTd, d2]; simp
              have z1 : X1.size ≤ 1000000 := by rw [← size_len, d1]; simp only [List.length_append, List.length_cons, List.length_replicate, size_len]; omega
              have z2 : X2.size ≤ 1000000 := by rw [← size_len, d2]; simp only [List.length_append, List.length_nil, List.length_replicate, size_len]; omega
              have z3 : X3.size ≤ 1000000 := by rw [← size_len, d3]; simp only [List.length_append, List.length_nil, List.length_replicate, size_len]; omega
              have z4 : Y3.size ≤ 1000000 := by rw [← size_len, ← e4, cat_data, d2]; simp only [List.length_append, List.length_nil, List.length_replicate, size_len]; omega
              have c3 := codes_three (q + 1) s.data.toList (by omega) hBare
              obtain ⟨C3, hC3⟩ : ∃ C3, mkB (codeL X3.data.toList).1 = C3 := ⟨_, rfl⟩
              have H1 := code_is X1 (.tuple #[.string (s), .int .i64 ((s.size : Int) + 2 * ((q : Int) + 1))]) (by rw [d1]; exact codes_one_v q s more hBare _ (hW)) z1
              have H2 := code_is X2 (.tuple #[.string ⟨#[]⟩, .int .i64 0]) (by unfold codeV; rw [d2, codes_two (q + 1) _ (by omega) hBare]; rfl) z2
              have H3 := code_is X3 (.tuple #[.string C3, .int .i64 (2 * (s.size : Int) + 3 * ((q : Int) + 1) + 1)]) (by unfold codeV; rw [hC3, d3, c3.1, size_len]; simp) z3
              have hlt : decide (s.size < C3.size) = true := by refine decide_eq_true ?_; rw [← hC3, mkB_size, d3]; have := c3.2; rw [size_len] at this; omega
              clear hTd d1 d2 d3 z1 z3 c3 hC3
              go_wp2_with fail
              refine (H1 _ (hm.bl hb)).mono ?_
              rintro e w5 ⟨rfl, hc1⟩
              have hb1 := hb.trans hc1
              go_wp2_with fail
              refine (H2 _ (hm.bl hb1)).mono ?_
              rintro e w6 ⟨rfl, hc2⟩
              have hb2 := hb1.trans hc2
              go_wp2_with fail
              refine (H3 _ (hm.bl hb2)).mono ?_
              rintro e w7 ⟨rfl, hc3⟩
              have hb3 := hb2.trans hc3
              clear hc1 hc2 hc3 H1 H2 H3 hb hb1 hb2
              go_wp2
              go_ret
              exact ⟨by simp, hb3⟩
        | true =>
          cases h9 : ((s[s.size - 1].toNat : Int) == 32) with
          | false =>
            have hW := want_self s (by rw [← F2, h9]; simp)
            clear hAny hh hg F1 F2
            go_wp2
            go_loopw [10, 11] (fun t i wr => ∃ j : Nat, j ≤ q + 1 ∧ i = .int .i64 j ∧ t = .string (repB j) ∧ Bl w wr) (fun _ i _ => q + 1 - (intOf i).toNat)
            case atStart => exact ⟨0, Nat.zero_le _, rfl, rfl, hb⟩
            case round =>
              clear hb
              obtain ⟨j, hj, rfl, rfl, hb⟩ := hrel
              by_cases hjq : j ≤ q
              · have dj : decide ((j : Int) ≤ (q : Int)) = true := decide_eq_true (by omega)
                have ej := repB_succ j
                have zj : (repB j).size = j := repB_size j
                go_wp2
                go_roundw
                case rel => exact ⟨j + 1, by omega, by go_num, rfl, hb⟩
                case measure => simp [intOf]; omega
              · obtain rfl : j = q + 1 := by omega
                have dj : decide (((q : Int) + 1) ≤ (q : Int)) = false := decide_eq_false (by omega)
                clear hjq hj
                obtain ⟨T, hT⟩ : ∃ T, repB (q + 1) = T := ⟨_, rfl⟩
                have hTd : T.data.toList = List.replicate (q + 1) 96 := by rw [← hT]; rfl
                have hTs : T.size = q + 1 := by rw [← size_len, hTd, List.length_replicate]
                obtain ⟨X1, e1⟩ : ∃ X1, (((T ++ s) ++ T) ++ (⟨#[120]⟩ : ByteArray)) ++ more = X1 := ⟨_, rfl⟩
                obtain ⟨X2, e2⟩ : ∃ X2, ((T ++ s) ++ T) ++ (⟨#[96]⟩ : ByteArray) = X2 := ⟨_, rfl⟩
                obtain ⟨Y3, e4⟩ : ∃ Y3, X2 ++ s = Y3 := ⟨_, rfl⟩
                obtain ⟨X3, e3⟩ : ∃ X3, Y3 ++ T = X3 := ⟨_, rfl⟩
                have d1 : X1.data.toList = List.replicate (q + 1) 96 ++ (s.data.toList ++ (List.replicate (q + 1) 96 ++ 120 :: more.data.toList)) := by rw [← e1]; simp only [cat_data, hTd]; simp
                have d2 : X2.data.toList = List.replicate (q + 1) 96 ++ (s.data.toList ++ (List.replicate (q + 1 + 1) 96 ++ [])) := by rw [← e2]; simp only [cat_data, hTd, List.append_nil, rep_snoc (q + 1)]; simp
                have d3 : X3.data.toList = List.replicate (q + 1) 96 ++ (s.data.toList ++ (List.replicate (q + 1 + 1) 96 ++ (s.data.toList ++ (List.replicate (q + 1) 96 ++ [])))) := by rw [← e3, ← e4]; simp only [cat_data, hTd, d2]; simp
                have z1 : X1.size ≤ 1000000 := by rw [← size_len, d1]; simp only [List.length_append, List.length_cons, List.length_replicate, size_len]; omega
                have z2 : X2.size ≤ 1000000 := by rw [← size_len, d2]; simp only [List.length_append, List.length_nil, List.length_replicate, size_len]; omega
                have z3 : X3.size ≤ 1000000 := by rw [← size_len, d3]; simp only [List.length_append, List.length_nil, List.length_replicate, size_len]; omega
                have z4 : Y3.size ≤ 1000000 := by rw [← size_len, ← e4, cat_data, d2]; simp only [List.length_append, List.length_nil, List.length_replicate, size_len]; omega
                have c3 := codes_three (q + 1) s.data.toList (by omega) hBare
                obtain ⟨C3, hC3⟩ : ∃ C3, mkB (codeL X3.data.toList).1 = C3 := ⟨_, rfl⟩
                have H1 := code_is X1 (.tuple #[.string (s), .int .i64 ((s.size : Int) + 2 * ((q : Int) + 1))]) (by rw [d1]; exact codes_one_v q s more hBare _ (hW)) z1
                have H2 := code_is X2 (.tuple #[.string ⟨#[]⟩, .int .i64 0]) (by unfold codeV; rw [d2, codes_two (q + 1) _ (by omega) hBare]; rfl) z2
                have H3 := code_is X3 (.tuple #[.string C3, .int .i64 (2 * (s.size : Int) + 3 * ((q : Int) + 1) + 1)]) (by unfold codeV; rw [hC3, d3, c3.1, size_len]; simp) z3
                have hlt : decide (s.size < C3.size) = true := by refine decide_eq_true ?_; rw [← hC3, mkB_size, d3]; have := c3.2; rw [size_len] at this; omega
                clear hTd d1 d2 d3 z1 z3 c3 hC3
                go_wp2_with fail
                refine (H1 _ (hm.bl hb)).mono ?_
                rintro e w5 ⟨rfl, hc1⟩
                have hb1 := hb.trans hc1
                go_wp2_with fail
                refine (H2 _ (hm.bl hb1)).mono ?_
                rintro e w6 ⟨rfl, hc2⟩
                have hb2 := hb1.trans hc2
                go_wp2_with fail
                refine (H3 _ (hm.bl hb2)).mono ?_
                rintro e w7 ⟨rfl, hc3⟩
                have hb3 := hb2.trans hc3
                clear hc1 hc2 hc3 H1 H2 H3 hb hb1 hb2
                go_wp2
                go_ret
                exact ⟨by simp, hb3⟩
          | true =>
            have hT2 : s.data.toList.any (· != 32) = true := by rw [hAny]; rfl
            have h2 : 2 ≤ s.size := by rw [← size_len]; exact two_of_blank _ hT2 (by rw [← F1, h0])
            have hW := want_mid s (by rw [hT2, ← F1, ← F2, h0, h9]; rfl)
            clear hAny hh hg F1 F2 hT2
            go_wp2
            go_loopw [10, 11] (fun t i wr => ∃ j : Nat, j ≤ q + 1 ∧ i = .int .i64 j ∧ t = .string (repB j) ∧ Bl w wr) (fun _ i _ => q + 1 - (intOf i).toNat)
            case atStart => exact ⟨0, Nat.zero_le _, rfl, rfl, hb⟩
            case round =>
              clear hb
              obtain ⟨j, hj, rfl, rfl, hb⟩ := hrel
              by_cases hjq : j ≤ q
              · have dj : decide ((j : Int) ≤ (q : Int)) = true := decide_eq_true (by omega)
                have ej := repB_succ j
                have zj : (repB j).size = j := repB_size j
                go_wp2
                go_roundw
                case rel => exact ⟨j + 1, by omega, by go_num, rfl, hb⟩
                case measure => simp [intOf]; omega
              · obtain rfl : j = q + 1 := by omega
                have dj : decide (((q : Int) + 1) ≤ (q : Int)) = false := decide_eq_false (by omega)
                clear hjq hj
                obtain ⟨T, hT⟩ : ∃ T, repB (q + 1) = T := ⟨_, rfl⟩
                have hTd : T.data.toList = List.replicate (q + 1) 96 := by rw [← hT]; rfl
                have hTs : T.size = q + 1 := by rw [← size_len, hTd, List.length_replicate]
                obtain ⟨X1, e1⟩ : ∃ X1, (((T ++ s) ++ T) ++ (⟨#[120]⟩ : ByteArray)) ++ more = X1 := ⟨_, rfl⟩
                obtain ⟨X2, e2⟩ : ∃ X2, ((T ++ s) ++ T) ++ (⟨#[96]⟩ : ByteArray) = X2 := ⟨_, rfl⟩
                obtain ⟨Y3, e4⟩ : ∃ Y3, X2 ++ s = Y3 := ⟨_, rfl⟩
                obtain ⟨X3, e3⟩ : ∃ X3, Y3 ++ T = X3 := ⟨_, rfl⟩
                have d1 : X1.data.toList = List.replicate (q + 1) 96 ++ (s.data.toList ++ (List.replicate (q + 1) 96 ++ 120 :: more.data.toList)) := by rw [← e1]; simp only [cat_data, hTd]; simp
                have d2 : X2.data.toList = List.replicate (q + 1) 96 ++ (s.data.toList ++ (List.replicate (q + 1 + 1) 96 ++ [])) := by rw [← e2]; simp only [cat_data, hTd, List.append_nil, rep_snoc (q + 1)]; simp
                have d3 : X3.data.toList = List.replicate (q + 1) 96 ++ (s.data.toList ++ (List.replicate (q + 1 + 1) 96 ++ (s.data.toList ++ (List.replicate (q + 1) 96 ++ [])))) := by rw [← e3, ← e4]; simp only [cat_data, hTd, d2]; simp
                have z1 : X1.size ≤ 1000000 := by rw [← size_len, d1]; simp only [List.length_append, List.length_cons, List.length_replicate, size_len]; omega
                have z2 : X2.size ≤ 1000000 := by rw [← size_len, d2]; simp only [List.length_append, List.length_nil, List.length_replicate, size_len]; omega
                have z3 : X3.size ≤ 1000000 := by rw [← size_len, d3]; simp only [List.length_append, List.length_nil, List.length_replicate, size_len]; omega
                have z4 : Y3.size ≤ 1000000 := by rw [← size_len, ← e4, cat_data, d2]; simp only [List.length_append, List.length_nil, List.length_replicate, size_len]; omega
                have c3 := codes_three (q + 1) s.data.toList (by omega) hBare
                obtain ⟨C3, hC3⟩ : ∃ C3, mkB (codeL X3.data.toList).1 = C3 := ⟨_, rfl⟩
                have H1 := code_is X1 (.tuple #[.string (s.extract 1 (s.size - 1)), .int .i64 ((s.size : Int) + 2 * ((q : Int) + 1))]) (by rw [d1]; exact codes_one_v q s more hBare _ (hW)) z1
                have H2 := code_is X2 (.tuple #[.string ⟨#[]⟩, .int .i64 0]) (by unfold codeV; rw [d2, codes_two (q + 1) _ (by omega) hBare]; rfl) z2
                have H3 := code_is X3 (.tuple #[.string C3, .int .i64 (2 * (s.size : Int) + 3 * ((q : Int) + 1) + 1)]) (by unfold codeV; rw [hC3, d3, c3.1, size_len]; simp) z3
                have hlt : decide (s.size < C3.size) = true := by refine decide_eq_true ?_; rw [← hC3, mkB_size, d3]; have := c3.2; rw [size_len] at this; omega
                clear hTd d1 d2 d3 z1 z3 c3 hC3
                go_wp2_with fail
                refine (H1 _ (hm.bl hb)).mono ?_
                rintro e w5 ⟨rfl, hc1⟩
                have hb1 := hb.trans hc1
                go_wp2_with fail
                refine (H2 _ (hm.bl hb1)).mono ?_
                rintro e w6 ⟨rfl, hc2⟩
                have hb2 := hb1.trans hc2
                go_wp2_with fail
                refine (H3 _ (hm.bl hb2)).mono ?_
                rintro e w7 ⟨rfl, hc3⟩
                have hb3 := hb2.trans hc3
                clear hc1 hc2 hc3 H1 H2 H3 hb hb1 hb2
                go_wp2
                go_ret
                exact ⟨by simp, hb3⟩

end Go.Proofs.YtgamlckdjfjobaaDoor
