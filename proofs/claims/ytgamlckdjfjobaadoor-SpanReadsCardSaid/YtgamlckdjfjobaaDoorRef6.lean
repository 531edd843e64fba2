/- The contract of the reference's attribute. -/
import Derived.Test.YtgamlckdjfjobaaDoorRef5
namespace Go.Proofs.YtgamlckdjfjobaaDoor
open Go.RowKit

structure AttR (s X : ByteArray) (A B : Bool) : Prop where
  ok : attrWhole s = true → X = attrT s ∧ A = attrIs s ∧ B = false
  bad : attrWhole s = false → B = true
  le : X.size ≤ s.size
theorem later_list (b : UInt8) : laterB b = (letterI (b.toNat : Int) || digitI (b.toNat : Int) || ((b.toNat : Int) == 95) || ((b.toNat : Int) == 46) || ((b.toNat : Int) == 58) || ((b.toNat : Int) == 45)) := by
  rw [eq_of_byte (c := 95) 95 rfl, eq_of_byte (c := 46) 46 rfl, eq_of_byte (c := 58) 58 rfl, eq_of_byte (c := 45) 45 rfl]
  unfold laterB firstB
  cases letterI (b.toNat : Int) <;> cases digitI (b.toNat : Int) <;> cases (b == 95) <;> cases (b == 46) <;> cases (b == 58) <;> cases (b == 45) <;> rfl
theorem first_list (b : UInt8) : firstB b = (letterI (b.toNat : Int) || ((b.toNat : Int) == 95) || ((b.toNat : Int) == 58)) := by
  rw [eq_of_byte (c := 95) 95 rfl, eq_of_byte (c := 58) 58 rfl]; rfl
theorem white_same (s : ByteArray) (h : (whiteT s).size = s.size) : whiteT s = s := by
  refine str_eq ?_
  have hs : (whiteT s).data.toList <:+ s.data.toList := white_suffix _
  exact hs.eq_of_length (by rw [size_len, size_len, h])
theorem toList_ne {a b : ByteArray} (h : a.size ≠ b.size) : (a.toList == b.toList) = false := by
  rw [beq_eq_false_iff_ne]
  intro e
  rw [toList_eq, toList_eq] at e
  apply h
  rw [← size_len, ← size_len, e]
theorem drop_later (u : ByteArray) (k : Nat) (hk : k ≤ u.size) (hall : (u.data.toList.take k).all laterB = true) (hs : ∀ a, u.data.toList[k]? = some a → laterB a = false) : u.extract k u.size = dropT laterB u := by
  refine str_eq ?_
  rw [Lib.extract_to_end]; unfold dropT
  rw [mkB_data, dropWhile_stop laterB u.data.toList k (by rw [size_len]; exact hk) hall hs]

set_option maxRecDepth 100000 in
set_option maxHeartbeats 8000000 in
theorem r08attribute_any (s : ByteArray) (w : World) (hs : s.size ≤ 1000000) :
    Calls Tryd.prog 52 #[.string s] w fun e w' => ∃ (X : ByteArray) (A B : Bool), e = .returned (.tuple #[.string X, .bool A, .bool B]) ∧ AttR s X A B ∧ Bl w w' := by
  have HW := skip_any s w hs
  have hz := whiteT_le s
  by_cases hsz : (whiteT s).size = s.size
  · obtain ⟨n1, n2, n3⟩ := attr_no s (fun x => by omega)
    rw [white_same s hsz] at HW
    have R := Lib.hid (show AttR s s false false from ⟨fun _ => ⟨n3.symm, n1.symm, rfl⟩, fun h => (by rw [n2] at h; cases h), Nat.le_refl _⟩)
    clear hsz hz n1 n2 n3
    go_enter Tryd.func52, Tryd.ntmps52
    go_wp2_with fail
    refine HW.mono ?_
    rintro e w1 ⟨rfl, hb1⟩
    go_wp2
    go_ret3
    exact ⟨s, false, false, rfl, R.out, hb1⟩
  have hlt : (whiteT s).size < s.size := by omega
  have tne := toList_ne hsz
  have se := isEmpty_false (show 0 < s.size by omega)
  have AN := Lib.hid (attr_no s)
  have R2 := Lib.hid (attr_bare s hlt)
  have R3 := Lib.hid (attr_value s hlt)
  obtain ⟨u, hu⟩ : ∃ u, whiteT s = u := ⟨_, rfl⟩
  rw [hu] at HW tne hz R2 R3 AN
  clear hsz hlt hu
  rcases Nat.eq_zero_or_pos u.size with e0 | hp
  · obtain rfl := str_nil e0
    obtain ⟨n1, n2, n3⟩ := AN.out (fun x => absurd x.2 (by decide))
    have R := Lib.hid (show AttR s s false false from ⟨fun _ => ⟨n3.symm, n1.symm, rfl⟩, fun h => (by rw [n2] at h; cases h), Nat.le_refl _⟩)
    clear hz n1 n2 n3 AN R2 R3
    go_enter Tryd.func52, Tryd.ntmps52
    go_wp2_with fail
    refine HW.mono ?_
    rintro e w1 ⟨rfl, hb1⟩
    go_wp2
    go_ret3
    exact ⟨s, false, false, rfl, R.out, hb1⟩
  have e1 := isEmpty_false hp
  have hd := headD_at u hp
  have FL := first_list u[0]
  have n95 : ((u[0].toNat : Int) != 95) = !((u[0].toNat : Int) == 95) := rfl
  have n58 : ((u[0].toNat : Int) != 58) = !((u[0].toNat : Int) == 58) := rfl
  rw [hd] at R2 R3 AN
  have R2' := Lib.hid (R2.out)
  have hv := dropT_le laterB u
  obtain ⟨v, hvv⟩ : ∃ v, dropT laterB u = v := ⟨_, rfl⟩
  have DL := Lib.hid (drop_later u)
  rw [hvv] at hv R2 R3 DL
  have hx := whiteT_le v
  have HW2 := fun W => skip_any v W (by omega)
  obtain ⟨x, hxx⟩ : ∃ x, whiteT v = x := ⟨_, rfl⟩
  rw [hxx] at hx HW2 R2 R3
  have hy := tailB_le x
  obtain ⟨y, hyy⟩ : ∃ y, tailB x = y := ⟨_, rfl⟩
  have ey := tailB_eq x
  rw [hyy] at hy ey R3
  have hzz := whiteT_le y
  have HW3 := fun W => skip_any y W (by omega)
  obtain ⟨z, hzz2⟩ : ∃ z, whiteT y = z := ⟨_, rfl⟩
  rw [hzz2] at hzz HW3 R3
  have HV := fun W => r08value_any z W (by omega)
  clear hvv hxx hyy hzz2 hd R2'
  cases hl : letterI (u[0].toNat : Int) with
  | true =>
    have F1 : firstB u[0] = true := by rw [FL, hl]; first | rfl | simp
    have L1 := Lib.hid (show laterB u[0] = true by unfold laterB; rw [F1]; rfl)
    have R2b := Lib.hid (R2.out F1)
    have R3b := Lib.hid (R3.out F1)
    clear R2 R3 AN FL F1
    go_enter Tryd.func52, Tryd.ntmps52
    go_wp2_with (first | (go_at_call 53; (with_reducible refine HW.mono ?_); rintro e w1 ⟨rfl, hb1⟩) | (go_at_call 74; (with_reducible refine (r08letter_any _ _).mono ?_); rintro e w' ⟨rfl, rfl⟩))
    clear n95 n58 HW tne
    go_loopw [6] (fun iv wr => ∃ k : Nat, 1 ≤ k ∧ k ≤ u.size ∧ iv = .int .i64 k ∧ Bl w wr ∧ Hid ((u.data.toList.take k).all laterB = true)) (fun iv _ => u.size - (intOf iv).toNat)
    case atStart => exact ⟨1, Nat.le_refl _, hp, rfl, hb1, Lib.hid (by rw [take_succ_all u laterB 0 hp, L1.out]; rfl)⟩
    case round =>
      clear hb1
      obtain ⟨k, h1k, hk, rfl, hb, hall⟩ := hrel
      by_cases hlt : k < u.size
      · have dl : decide (k < u.size) = true := decide_eq_true hlt
        have HK := Lib.hid (take_succ_all u laterB k hlt)
        have HB := Lib.hid (later_list u[k])
        have AT := Lib.hid (at_some u k hlt)
        cases m0 : letterI (u[k].toNat : Int) with
        | true =>
          go_wp2_with (first | (go_at_call 74; (with_reducible refine (r08letter_any _ _).mono ?_); rintro e w' ⟨rfl, rfl⟩) | (go_at_call 75; (with_reducible refine (r08digit_any _ _).mono ?_); rintro e w' ⟨rfl, rfl⟩))
          go_roundw
          case rel => exact ⟨k + 1, by omega, by omega, by go_num, hb, Lib.hid (by rw [HK.out, hall.out, HB.out, m0]; first | rfl | simp)⟩
          case measure => simp [intOf]; omega
        | false =>
          cases m1 : digitI (u[k].toNat : Int) with
          | true =>
            go_wp2_with (first | (go_at_call 74; (with_reducible refine (r08letter_any _ _).mono ?_); rintro e w' ⟨rfl, rfl⟩) | (go_at_call 75; (with_reducible refine (r08digit_any _ _).mono ?_); rintro e w' ⟨rfl, rfl⟩))
            go_roundw
            case rel => exact ⟨k + 1, by omega, by omega, by go_num, hb, Lib.hid (by rw [HK.out, hall.out, HB.out, m0, m1]; first | rfl | simp)⟩
            case measure => simp [intOf]; omega
          | false =>
            cases m95 : ((u[k].toNat : Int) == 95) with
            | true =>
              go_wp2_with (first | (go_at_call 74; (with_reducible refine (r08letter_any _ _).mono ?_); rintro e w' ⟨rfl, rfl⟩) | (go_at_call 75; (with_reducible refine (r08digit_any _ _).mono ?_); rintro e w' ⟨rfl, rfl⟩))
              go_roundw
              case rel => exact ⟨k + 1, by omega, by omega, by go_num, hb, Lib.hid (by rw [HK.out, hall.out, HB.out, m0, m1, m95]; first | rfl | simp)⟩
              case measure => simp [intOf]; omega
            | false =>
              cases m46 : ((u[k].toNat : Int) == 46) with
              | true =>
                go_wp2_with (first | (go_at_call 74; (with_reducible refine (r08letter_any _ _).mono ?_); rintro e w' ⟨rfl, rfl⟩) | (go_at_call 75; (with_reducible refine (r08digit_any _ _).mono ?_); rintro e w' ⟨rfl, rfl⟩))
                go_roundw
                case rel => exact ⟨k + 1, by omega, by omega, by go_num, hb, Lib.hid (by rw [HK.out, hall.out, HB.out, m0, m1, m95, m46]; first | rfl | simp)⟩
                case measure => simp [intOf]; omega
              | false =>
                cases m58 : ((u[k].toNat : Int) == 58) with
                | true =>
                  go_wp2_with (first | (go_at_call 74; (with_reducible refine (r08letter_any _ _).mono ?_); rintro e w' ⟨rfl, rfl⟩) | (go_at_call 75; (with_reducible refine (r08digit_any _ _).mono ?_); rintro e w' ⟨rfl, rfl⟩))
                  go_roundw
                  case rel => exact ⟨k + 1, by omega, by omega, by go_num, hb, Lib.hid (by rw [HK.out, hall.out, HB.out, m0, m1, m95, m46, m58]; first | rfl | simp)⟩
                  case measure => simp [intOf]; omega
                | false =>
                  cases m45 : ((u[k].toNat : Int) == 45) with
                  | true =>
                    go_wp2_with (first | (go_at_call 74; (with_reducible refine (r08letter_any _ _).mono ?_); rintro e w' ⟨rfl, rfl⟩) | (go_at_call 75; (with_reducible refine (r08digit_any _ _).mono ?_); rintro e w' ⟨rfl, rfl⟩))
                    go_roundw
                    case rel => exact ⟨k + 1, by omega, by omega, by go_num, hb, Lib.hid (by rw [HK.out, hall.out, HB.out, m0, m1, m95, m46, m58, m45]; first | rfl | simp)⟩
                    case measure => simp [intOf]; omega
                  | false =>
                    have E := DL.out k hk hall.out (fun a ha => by rw [Option.some.inj (ha.symm.trans AT.out), HB.out, m0, m1, m95, m46, m58, m45]; rfl)
                    cases h61 : (x.data.toList.headD 0 == 61) with
                    | false =>
                      have R := Lib.hid (R2b.out h61)
                      have RR := Lib.hid (show AttR s v true false from ⟨fun _ => ⟨R.out.2.2.symm, R.out.1.symm, rfl⟩, fun h => (by rw [R.out.2.1] at h; cases h), by omega⟩)
                      rcases Nat.eq_zero_or_pos x.size with x0 | hxp
                      · obtain rfl := str_nil x0
                        go_wp2_with (first | (go_at_call 53; (with_reducible refine (HW2 _).mono ?_); rintro e w2 ⟨rfl, hb2⟩) | (go_at_call 74; (with_reducible refine (r08letter_any _ _).mono ?_); rintro e w' ⟨rfl, rfl⟩) | (go_at_call 75; (with_reducible refine (r08digit_any _ _).mono ?_); rintro e w' ⟨rfl, rfl⟩))
                        go_ret3
                        exact ⟨v, true, false, rfl, RR.out, hb.trans hb2⟩
                      have ex1 := isEmpty_false hxp
                      have nx : ((x[0].toNat : Int) != 61) = true := by rw [ne_of_byte (c := 61) 61 rfl, ← headD_at x hxp, h61]; rfl
                      go_wp2_with (first | (go_at_call 53; (with_reducible refine (HW2 _).mono ?_); rintro e w2 ⟨rfl, hb2⟩) | (go_at_call 74; (with_reducible refine (r08letter_any _ _).mono ?_); rintro e w' ⟨rfl, rfl⟩) | (go_at_call 75; (with_reducible refine (r08digit_any _ _).mono ?_); rintro e w' ⟨rfl, rfl⟩))
                      go_ret3
                      exact ⟨v, true, false, rfl, RR.out, hb.trans hb2⟩
                    | true =>
                      have R := Lib.hid (R3b.out h61)
                      have hxp : 0 < x.size := by
                        rcases Nat.eq_zero_or_pos x.size with x0 | h
                        · obtain rfl := str_nil x0; exact absurd h61 (by decide)
                        · exact h
                      have ex1 := isEmpty_false hxp
                      have nx : ((x[0].toNat : Int) != 61) = false := by rw [ne_of_byte (c := 61) 61 rfl, ← headD_at x hxp, h61]; rfl
                      go_wp2_with (first | (go_at_call_of 53 (Value.string v); (with_reducible refine (HW2 _).mono ?_); rintro e w2 ⟨rfl, hb2⟩) | (go_at_call 53; (with_reducible refine (HW3 _).mono ?_); rintro e w3 ⟨rfl, hb3⟩) | (go_at_call 76; fail) | (go_at_call 74; (with_reducible refine (r08letter_any _ _).mono ?_); rintro e w' ⟨rfl, rfl⟩) | (go_at_call 75; (with_reducible refine (r08digit_any _ _).mono ?_); rintro e w' ⟨rfl, rfl⟩))
                      refine (HV _).mono ?_
                      rintro e w4 ⟨X, rfl, hX, hb4⟩
                      have hXl := hX.le
                      have RR := Lib.hid (show AttR s X (valueOk z) (!valueOk z) from ⟨fun h => by rw [R.out.2.1] at h; exact ⟨(hX.ok h).trans R.out.2.2.symm, h.trans R.out.1.symm, by rw [h]; rfl⟩, fun h => by rw [R.out.2.1] at h; rw [h]; rfl, by omega⟩)
                      obtain ⟨o, ho⟩ : ∃ o, valueOk z = o := ⟨_, rfl⟩
                      rw [ho] at RR ⊢
                      clear hX ho
                      go_wp2
                      go_ret3
                      exact ⟨X, o, !o, rfl, RR.out, ((hb.trans hb2).trans hb3).trans hb4⟩
      · obtain rfl : k = u.size := by omega
        have dl : decide (u.size < u.size) = false := decide_eq_false (by omega)
        have E := DL.out u.size (Nat.le_refl _) hall.out (fun a ha => by rw [at_none u u.size (by omega)] at ha; cases ha)
        have E2 : ByteArray.empty = v := by rw [← E]; refine str_eq ?_; rw [Lib.extract_to_end, List.drop_of_length_le (by rw [size_len]; omega)]; rfl
        cases h61 : (x.data.toList.headD 0 == 61) with
        | false =>
          have R := Lib.hid (R2b.out h61)
          have RR := Lib.hid (show AttR s v true false from ⟨fun _ => ⟨R.out.2.2.symm, R.out.1.symm, rfl⟩, fun h => (by rw [R.out.2.1] at h; cases h), by omega⟩)
          rcases Nat.eq_zero_or_pos x.size with x0 | hxp
          · obtain rfl := str_nil x0
            go_wp2_with (first | (go_at_call 53; (with_reducible refine (HW2 _).mono ?_); rintro e w2 ⟨rfl, hb2⟩) | (go_at_call 74; (with_reducible refine (r08letter_any _ _).mono ?_); rintro e w' ⟨rfl, rfl⟩) | (go_at_call 75; (with_reducible refine (r08digit_any _ _).mono ?_); rintro e w' ⟨rfl, rfl⟩))
            go_ret3
            exact ⟨v, true, false, rfl, RR.out, hb.trans hb2⟩
          have ex1 := isEmpty_false hxp
          have nx : ((x[0].toNat : Int) != 61) = true := by rw [ne_of_byte (c := 61) 61 rfl, ← headD_at x hxp, h61]; rfl
          go_wp2_with (first | (go_at_call 53; (with_reducible refine (HW2 _).mono ?_); rintro e w2 ⟨rfl, hb2⟩) | (go_at_call 74; (with_reducible refine (r08letter_any _ _).mono ?_); rintro e w' ⟨rfl, rfl⟩) | (go_at_call 75; (with_reducible refine (r08digit_any _ _).mono ?_); rintro e w' ⟨rfl, rfl⟩))
          go_ret3
          exact ⟨v, true, false, rfl, RR.out, hb.trans hb2⟩
        | true =>
          have R := Lib.hid (R3b.out h61)
          have hxp : 0 < x.size := by
            rcases Nat.eq_zero_or_pos x.size with x0 | h
            · obtain rfl := str_nil x0; exact absurd h61 (by decide)
            · exact h
          have ex1 := isEmpty_false hxp
          have nx : ((x[0].toNat : Int) != 61) = false := by rw [ne_of_byte (c := 61) 61 rfl, ← headD_at x hxp, h61]; rfl
          go_wp2_with (first | (go_at_call_of 53 (Value.string v); (with_reducible refine (HW2 _).mono ?_); rintro e w2 ⟨rfl, hb2⟩) | (go_at_call 53; (with_reducible refine (HW3 _).mono ?_); rintro e w3 ⟨rfl, hb3⟩) | (go_at_call 76; fail) | (go_at_call 74; (with_reducible refine (r08letter_any _ _).mono ?_); rintro e w' ⟨rfl, rfl⟩) | (go_at_call 75; (with_reducible refine (r08digit_any _ _).mono ?_); rintro e w' ⟨rfl, rfl⟩))
          refine (HV _).mono ?_
          rintro e w4 ⟨X, rfl, hX, hb4⟩
          have hXl := hX.le
          have RR := Lib.hid (show AttR s X (valueOk z) (!valueOk z) from ⟨fun h => by rw [R.out.2.1] at h; exact ⟨(hX.ok h).trans R.out.2.2.symm, h.trans R.out.1.symm, by rw [h]; rfl⟩, fun h => by rw [R.out.2.1] at h; rw [h]; rfl, by omega⟩)
          obtain ⟨o, ho⟩ : ∃ o, valueOk z = o := ⟨_, rfl⟩
          rw [ho] at RR ⊢
          clear hX ho
          go_wp2
          go_ret3
          exact ⟨X, o, !o, rfl, RR.out, ((hb.trans hb2).trans hb3).trans hb4⟩
  | false =>
    cases h95 : ((u[0].toNat : Int) == 95) with
    | true =>
      rw [h95] at n95
      have F1 : firstB u[0] = true := by rw [FL, hl, h95]; first | rfl | simp
      have L1 := Lib.hid (show laterB u[0] = true by unfold laterB; rw [F1]; rfl)
      have R2b := Lib.hid (R2.out F1)
      have R3b := Lib.hid (R3.out F1)
      clear R2 R3 AN FL F1
      go_enter Tryd.func52, Tryd.ntmps52
      go_wp2_with (first | (go_at_call 53; (with_reducible refine HW.mono ?_); rintro e w1 ⟨rfl, hb1⟩) | (go_at_call 74; (with_reducible refine (r08letter_any _ _).mono ?_); rintro e w' ⟨rfl, rfl⟩))
      clear n95 n58 HW tne
      go_loopw [6] (fun iv wr => ∃ k : Nat, 1 ≤ k ∧ k ≤ u.size ∧ iv = .int .i64 k ∧ Bl w wr ∧ Hid ((u.data.toList.take k).all laterB = true)) (fun iv _ => u.size - (intOf iv).toNat)
      case atStart => exact ⟨1, Nat.le_refl _, hp, rfl, hb1, Lib.hid (by rw [take_succ_all u laterB 0 hp, L1.out]; rfl)⟩
      case round =>
        clear hb1
        obtain ⟨k, h1k, hk, rfl, hb, hall⟩ := hrel
        by_cases hlt : k < u.size
        · have dl : decide (k < u.size) = true := decide_eq_true hlt
          have HK := Lib.hid (take_succ_all u laterB k hlt)
          have HB := Lib.hid (later_list u[k])
          have AT := Lib.hid (at_some u k hlt)
          cases m0 : letterI (u[k].toNat : Int) with
          | true =>
            go_wp2_with (first | (go_at_call 74; (with_reducible refine (r08letter_any _ _).mono ?_); rintro e w' ⟨rfl, rfl⟩) | (go_at_call 75; (with_reducible refine (r08digit_any _ _).mono ?_); rintro e w' ⟨rfl, rfl⟩))
            go_roundw
            case rel => exact ⟨k + 1, by omega, by omega, by go_num, hb, Lib.hid (by rw [HK.out, hall.out, HB.out, m0]; first | rfl | simp)⟩
            case measure => simp [intOf]; omega
          | false =>
            cases m1 : digitI (u[k].toNat : Int) with
            | true =>
              go_wp2_with (first | (go_at_call 74; (with_reducible refine (r08letter_any _ _).mono ?_); rintro e w' ⟨rfl, rfl⟩) | (go_at_call 75; (with_reducible refine (r08digit_any _ _).mono ?_); rintro e w' ⟨rfl, rfl⟩))
              go_roundw
              case rel => exact ⟨k + 1, by omega, by omega, by go_num, hb, Lib.hid (by rw [HK.out, hall.out, HB.out, m0, m1]; first | rfl | simp)⟩
              case measure => simp [intOf]; omega
            | false =>
              cases m95 : ((u[k].toNat : Int) == 95) with
              | true =>
                go_wp2_with (first | (go_at_call 74; (with_reducible refine (r08letter_any _ _).mono ?_); rintro e w' ⟨rfl, rfl⟩) | (go_at_call 75; (with_reducible refine (r08digit_any _ _).mono ?_); rintro e w' ⟨rfl, rfl⟩))
                go_roundw
                case rel => exact ⟨k + 1, by omega, by omega, by go_num, hb, Lib.hid (by rw [HK.out, hall.out, HB.out, m0, m1, m95]; first | rfl | simp)⟩
                case measure => simp [intOf]; omega
              | false =>
                cases m46 : ((u[k].toNat : Int) == 46) with
                | true =>
                  go_wp2_with (first | (go_at_call 74; (with_reducible refine (r08letter_any _ _).mono ?_); rintro e w' ⟨rfl, rfl⟩) | (go_at_call 75; (with_reducible refine (r08digit_any _ _).mono ?_); rintro e w' ⟨rfl, rfl⟩))
                  go_roundw
                  case rel => exact ⟨k + 1, by omega, by omega, by go_num, hb, Lib.hid (by rw [HK.out, hall.out, HB.out, m0, m1, m95, m46]; first | rfl | simp)⟩
                  case measure => simp [intOf]; omega
                | false =>
                  cases m58 : ((u[k].toNat : Int) == 58) with
                  | true =>
                    go_wp2_with (first | (go_at_call 74; (with_reducible refine (r08letter_any _ _).mono ?_); rintro e w' ⟨rfl, rfl⟩) | (go_at_call 75; (with_reducible refine (r08digit_any _ _).mono ?_); rintro e w' ⟨rfl, rfl⟩))
                    go_roundw
                    case rel => exact ⟨k + 1, by omega, by omega, by go_num, hb, Lib.hid (by rw [HK.out, hall.out, HB.out, m0, m1, m95, m46, m58]; first | rfl | simp)⟩
                    case measure => simp [intOf]; omega
                  | false =>
                    cases m45 : ((u[k].toNat : Int) == 45) with
                    | true =>
                      go_wp2_with (first | (go_at_call 74; (with_reducible refine (r08letter_any _ _).mono ?_); rintro e w' ⟨rfl, rfl⟩) | (go_at_call 75; (with_reducible refine (r08digit_any _ _).mono ?_); rintro e w' ⟨rfl, rfl⟩))
                      go_roundw
                      case rel => exact ⟨k + 1, by omega, by omega, by go_num, hb, Lib.hid (by rw [HK.out, hall.out, HB.out, m0, m1, m95, m46, m58, m45]; first | rfl | simp)⟩
                      case measure => simp [intOf]; omega
                    | false =>
                      have E := DL.out k hk hall.out (fun a ha => by rw [Option.some.inj (ha.symm.trans AT.out), HB.out, m0, m1, m95, m46, m58, m45]; rfl)
                      cases h61 : (x.data.toList.headD 0 == 61) with
                      | false =>
                        have R := Lib.hid (R2b.out h61)
                        have RR := Lib.hid (show AttR s v true false from ⟨fun _ => ⟨R.out.2.2.symm, R.out.1.symm, rfl⟩, fun h => (by rw [R.out.2.1] at h; cases h), by omega⟩)
                        rcases Nat.eq_zero_or_pos x.size with x0 | hxp
                        · obtain rfl := str_nil x0
                          go_wp2_with (first | (go_at_call 53; (with_reducible refine (HW2 _).mono ?_); rintro e w2 ⟨rfl, hb2⟩) | (go_at_call 74; (with_reducible refine (r08letter_any _ _).mono ?_); rintro e w' ⟨rfl, rfl⟩) | (go_at_call 75; (with_reducible refine (r08digit_any _ _).mono ?_); rintro e w' ⟨rfl, rfl⟩))
                          go_ret3
                          exact ⟨v, true, false, rfl, RR.out, hb.trans hb2⟩
                        have ex1 := isEmpty_false hxp
                        have nx : ((x[0].toNat : Int) != 61) = true := by rw [ne_of_byte (c := 61) 61 rfl, ← headD_at x hxp, h61]; rfl
                        go_wp2_with (first | (go_at_call 53; (with_reducible refine (HW2 _).mono ?_); rintro e w2 ⟨rfl, hb2⟩) | (go_at_call 74; (with_reducible refine (r08letter_any _ _).mono ?_); rintro e w' ⟨rfl, rfl⟩) | (go_at_call 75; (with_reducible refine (r08digit_any _ _).mono ?_); rintro e w' ⟨rfl, rfl⟩))
                        go_ret3
                        exact ⟨v, true, false, rfl, RR.out, hb.trans hb2⟩
                      | true =>
                        have R := Lib.hid (R3b.out h61)
                        have hxp : 0 < x.size := by
                          rcases Nat.eq_zero_or_pos x.size with x0 | h
                          · obtain rfl := str_nil x0; exact absurd h61 (by decide)
                          · exact h
                        have ex1 := isEmpty_false hxp
                        have nx : ((x[0].toNat : Int) != 61) = false := by rw [ne_of_byte (c := 61) 61 rfl, ← headD_at x hxp, h61]; rfl
                        go_wp2_with (first | (go_at_call_of 53 (Value.string v); (with_reducible refine (HW2 _).mono ?_); rintro e w2 ⟨rfl, hb2⟩) | (go_at_call 53; (with_reducible refine (HW3 _).mono ?_); rintro e w3 ⟨rfl, hb3⟩) | (go_at_call 76; fail) | (go_at_call 74; (with_reducible refine (r08letter_any _ _).mono ?_); rintro e w' ⟨rfl, rfl⟩) | (go_at_call 75; (with_reducible refine (r08digit_any _ _).mono ?_); rintro e w' ⟨rfl, rfl⟩))
                        refine (HV _).mono ?_
                        rintro e w4 ⟨X, rfl, hX, hb4⟩
                        have hXl := hX.le
                        have RR := Lib.hid (show AttR s X (valueOk z) (!valueOk z) from ⟨fun h => by rw [R.out.2.1] at h; exact ⟨(hX.ok h).trans R.out.2.2.symm, h.trans R.out.1.symm, by rw [h]; rfl⟩, fun h => by rw [R.out.2.1] at h; rw [h]; rfl, by omega⟩)
                        obtain ⟨o, ho⟩ : ∃ o, valueOk z = o := ⟨_, rfl⟩
                        rw [ho] at RR ⊢
                        clear hX ho
                        go_wp2
                        go_ret3
                        exact ⟨X, o, !o, rfl, RR.out, ((hb.trans hb2).trans hb3).trans hb4⟩
        · obtain rfl : k = u.size := by omega
          have dl : decide (u.size < u.size) = false := decide_eq_false (by omega)
          have E := DL.out u.size (Nat.le_refl _) hall.out (fun a ha => by rw [at_none u u.size (by omega)] at ha; cases ha)
          have E2 : ByteArray.empty = v := by rw [← E]; refine str_eq ?_; rw [Lib.extract_to_end, List.drop_of_length_le (by rw [size_len]; omega)]; rfl
          cases h61 : (x.data.toList.headD 0 == 61) with
          | false =>
            have R := Lib.hid (R2b.out h61)
            have RR := Lib.hid (show AttR s v true false from ⟨fun _ => ⟨R.out.2.2.symm, R.out.1.symm, rfl⟩, fun h => (by rw [R.out.2.1] at h; cases h), by omega⟩)
            rcases Nat.eq_zero_or_pos x.size with x0 | hxp
            · obtain rfl := str_nil x0
              go_wp2_with (first | (go_at_call 53; (with_reducible refine (HW2 _).mono ?_); rintro e w2 ⟨rfl, hb2⟩) | (go_at_call 74; (with_reducible refine (r08letter_any _ _).mono ?_); rintro e w' ⟨rfl, rfl⟩) | (go_at_call 75; (with_reducible refine (r08digit_any _ _).mono ?_); rintro e w' ⟨rfl, rfl⟩))
              go_ret3
              exact ⟨v, true, false, rfl, RR.out, hb.trans hb2⟩
            have ex1 := isEmpty_false hxp
            have nx : ((x[0].toNat : Int) != 61) = true := by rw [ne_of_byte (c := 61) 61 rfl, ← headD_at x hxp, h61]; rfl
            go_wp2_with (first | (go_at_call 53; (with_reducible refine (HW2 _).mono ?_); rintro e w2 ⟨rfl, hb2⟩) | (go_at_call 74; (with_reducible refine (r08letter_any _ _).mono ?_); rintro e w' ⟨rfl, rfl⟩) | (go_at_call 75; (with_reducible refine (r08digit_any _ _).mono ?_); rintro e w' ⟨rfl, rfl⟩))
            go_ret3
            exact ⟨v, true, false, rfl, RR.out, hb.trans hb2⟩
          | true =>
            have R := Lib.hid (R3b.out h61)
            have hxp : 0 < x.size := by
              rcases Nat.eq_zero_or_pos x.size with x0 | h
              · obtain rfl := str_nil x0; exact absurd h61 (by decide)
              · exact h
            have ex1 := isEmpty_false hxp
            have nx : ((x[0].toNat : Int) != 61) = false := by rw [ne_of_byte (c := 61) 61 rfl, ← headD_at x hxp, h61]; rfl
            go_wp2_with (first | (go_at_call_of 53 (Value.string v); (with_reducible refine (HW2 _).mono ?_); rintro e w2 ⟨rfl, hb2⟩) | (go_at_call 53; (with_reducible refine (HW3 _).mono ?_); rintro e w3 ⟨rfl, hb3⟩) | (go_at_call 76; fail) | (go_at_call 74; (with_reducible refine (r08letter_any _ _).mono ?_); rintro e w' ⟨rfl, rfl⟩) | (go_at_call 75; (with_reducible refine (r08digit_any _ _).mono ?_); rintro e w' ⟨rfl, rfl⟩))
            refine (HV _).mono ?_
            rintro e w4 ⟨X, rfl, hX, hb4⟩
            have hXl := hX.le
            have RR := Lib.hid (show AttR s X (valueOk z) (!valueOk z) from ⟨fun h => by rw [R.out.2.1] at h; exact ⟨(hX.ok h).trans R.out.2.2.symm, h.trans R.out.1.symm, by rw [h]; rfl⟩, fun h => by rw [R.out.2.1] at h; rw [h]; rfl, by omega⟩)
            obtain ⟨o, ho⟩ : ∃ o, valueOk z = o := ⟨_, rfl⟩
            rw [ho] at RR ⊢
            clear hX ho
            go_wp2
            go_ret3
            exact ⟨X, o, !o, rfl, RR.out, ((hb.trans hb2).trans hb3).trans hb4⟩
    | false =>
      rw [h95] at n95
      cases h58 : ((u[0].toNat : Int) == 58) with
      | true =>
        rw [h58] at n58
        have F1 : firstB u[0] = true := by rw [FL, hl, h95, h58]; first | rfl | simp
        have L1 := Lib.hid (show laterB u[0] = true by unfold laterB; rw [F1]; rfl)
        have R2b := Lib.hid (R2.out F1)
        have R3b := Lib.hid (R3.out F1)
        clear R2 R3 AN FL F1
        go_enter Tryd.func52, Tryd.ntmps52
        go_wp2_with (first | (go_at_call 53; (with_reducible refine HW.mono ?_); rintro e w1 ⟨rfl, hb1⟩) | (go_at_call 74; (with_reducible refine (r08letter_any _ _).mono ?_); rintro e w' ⟨rfl, rfl⟩))
        clear n95 n58 HW tne
        go_loopw [6] (fun iv wr => ∃ k : Nat, 1 ≤ k ∧ k ≤ u.size ∧ iv = .int .i64 k ∧ Bl w wr ∧ Hid ((u.data.toList.take k).all laterB = true)) (fun iv _ => u.size - (intOf iv).toNat)
        case atStart => exact ⟨1, Nat.le_refl _, hp, rfl, hb1, Lib.hid (by rw [take_succ_all u laterB 0 hp, L1.out]; rfl)⟩
        case round =>
          clear hb1
          obtain ⟨k, h1k, hk, rfl, hb, hall⟩ := hrel
          by_cases hlt : k < u.size
          · have dl : decide (k < u.size) = true := decide_eq_true hlt
            have HK := Lib.hid (take_succ_all u laterB k hlt)
            have HB := Lib.hid (later_list u[k])
            have AT := Lib.hid (at_some u k hlt)
            cases m0 : letterI (u[k].toNat : Int) with
            | true =>
              go_wp2_with (first | (go_at_call 74; (with_reducible refine (r08letter_any _ _).mono ?_); rintro e w' ⟨rfl, rfl⟩) | (go_at_call 75; (with_reducible refine (r08digit_any _ _).mono ?_); rintro e w' ⟨rfl, rfl⟩))
              go_roundw
              case rel => exact ⟨k + 1, by omega, by omega, by go_num, hb, Lib.hid (by rw [HK.out, hall.out, HB.out, m0]; first | rfl | simp)⟩
              case measure => simp [intOf]; omega
            | false =>
              cases m1 : digitI (u[k].toNat : Int) with
              | true =>
                go_wp2_with (first | (go_at_call 74; (with_reducible refine (r08letter_any _ _).mono ?_); rintro e w' ⟨rfl, rfl⟩) | (go_at_call 75; (with_reducible refine (r08digit_any _ _).mono ?_); rintro e w' ⟨rfl, rfl⟩))
                go_roundw
                case rel => exact ⟨k + 1, by omega, by omega, by go_num, hb, Lib.hid (by rw [HK.out, hall.out, HB.out, m0, m1]; first | rfl | simp)⟩
                case measure => simp [intOf]; omega
              | false =>
                cases m95 : ((u[k].toNat : Int) == 95) with
                | true =>
                  go_wp2_with (first | (go_at_call 74; (with_reducible refine (r08letter_any _ _).mono ?_); rintro e w' ⟨rfl, rfl⟩) | (go_at_call 75; (with_reducible refine (r08digit_any _ _).mono ?_); rintro e w' ⟨rfl, rfl⟩))
                  go_roundw
                  case rel => exact ⟨k + 1, by omega, by omega, by go_num, hb, Lib.hid (by rw [HK.out, hall.out, HB.out, m0, m1, m95]; first | rfl | simp)⟩
                  case measure => simp [intOf]; omega
                | false =>
                  cases m46 : ((u[k].toNat : Int) == 46) with
                  | true =>
                    go_wp2_with (first | (go_at_call 74; (with_reducible refine (r08letter_any _ _).mono ?_); rintro e w' ⟨rfl, rfl⟩) | (go_at_call 75; (with_reducible refine (r08digit_any _ _).mono ?_); rintro e w' ⟨rfl, rfl⟩))
                    go_roundw
                    case rel => exact ⟨k + 1, by omega, by omega, by go_num, hb, Lib.hid (by rw [HK.out, hall.out, HB.out, m0, m1, m95, m46]; first | rfl | simp)⟩
                    case measure => simp [intOf]; omega
                  | false =>
                    cases m58 : ((u[k].toNat : Int) == 58) with
                    | true =>
                      go_wp2_with (first | (go_at_call 74; (with_reducible refine (r08letter_any _ _).mono ?_); rintro e w' ⟨rfl, rfl⟩) | (go_at_call 75; (with_reducible refine (r08digit_any _ _).mono ?_); rintro e w' ⟨rfl, rfl⟩))
                      go_roundw
                      case rel => exact ⟨k + 1, by omega, by omega, by go_num, hb, Lib.hid (by rw [HK.out, hall.out, HB.out, m0, m1, m95, m46, m58]; first | rfl | simp)⟩
                      case measure => simp [intOf]; omega
                    | false =>
                      cases m45 : ((u[k].toNat : Int) == 45) with
                      | true =>
                        go_wp2_with (first | (go_at_call 74; (with_reducible refine (r08letter_any _ _).mono ?_); rintro e w' ⟨rfl, rfl⟩) | (go_at_call 75; (with_reducible refine (r08digit_any _ _).mono ?_); rintro e w' ⟨rfl, rfl⟩))
                        go_roundw
                        case rel => exact ⟨k + 1, by omega, by omega, by go_num, hb, Lib.hid (by rw [HK.out, hall.out, HB.out, m0, m1, m95, m46, m58, m45]; first | rfl | simp)⟩
                        case measure => simp [intOf]; omega
                      | false =>
                        have E := DL.out k hk hall.out (fun a ha => by rw [Option.some.inj (ha.symm.trans AT.out), HB.out, m0, m1, m95, m46, m58, m45]; rfl)
                        cases h61 : (x.data.toList.headD 0 == 61) with
                        | false =>
                          have R := Lib.hid (R2b.out h61)
                          have RR := Lib.hid (show AttR s v true false from ⟨fun _ => ⟨R.out.2.2.symm, R.out.1.symm, rfl⟩, fun h => (by rw [R.out.2.1] at h; cases h), by omega⟩)
                          rcases Nat.eq_zero_or_pos x.size with x0 | hxp
                          · obtain rfl := str_nil x0
                            go_wp2_with (first | (go_at_call 53; (with_reducible refine (HW2 _).mono ?_); rintro e w2 ⟨rfl, hb2⟩) | (go_at_call 74; (with_reducible refine (r08letter_any _ _).mono ?_); rintro e w' ⟨rfl, rfl⟩) | (go_at_call 75; (with_reducible refine (r08digit_any _ _).mono ?_); rintro e w' ⟨rfl, rfl⟩))
                            go_ret3
                            exact ⟨v, true, false, rfl, RR.out, hb.trans hb2⟩
                          have ex1 := isEmpty_false hxp
                          have nx : ((x[0].toNat : Int) != 61) = true := by rw [ne_of_byte (c := 61) 61 rfl, ← headD_at x hxp, h61]; rfl
                          go_wp2_with (first | (go_at_call 53; (with_reducible refine (HW2 _).mono ?_); rintro e w2 ⟨rfl, hb2⟩) | (go_at_call 74; (with_reducible refine (r08letter_any _ _).mono ?_); rintro e w' ⟨rfl, rfl⟩) | (go_at_call 75; (with_reducible refine (r08digit_any _ _).mono ?_); rintro e w' ⟨rfl, rfl⟩))
                          go_ret3
                          exact ⟨v, true, false, rfl, RR.out, hb.trans hb2⟩
                        | true =>
                          have R := Lib.hid (R3b.out h61)
                          have hxp : 0 < x.size := by
                            rcases Nat.eq_zero_or_pos x.size with x0 | h
                            · obtain rfl := str_nil x0; exact absurd h61 (by decide)
                            · exact h
                          have ex1 := isEmpty_false hxp
                          have nx : ((x[0].toNat : Int) != 61) = false := by rw [ne_of_byte (c := 61) 61 rfl, ← headD_at x hxp, h61]; rfl
                          go_wp2_with (first | (go_at_call_of 53 (Value.string v); (with_reducible refine (HW2 _).mono ?_); rintro e w2 ⟨rfl, hb2⟩) | (go_at_call 53; (with_reducible refine (HW3 _).mono ?_); rintro e w3 ⟨rfl, hb3⟩) | (go_at_call 76; fail) | (go_at_call 74; (with_reducible refine (r08letter_any _ _).mono ?_); rintro e w' ⟨rfl, rfl⟩) | (go_at_call 75; (with_reducible refine (r08digit_any _ _).mono ?_); rintro e w' ⟨rfl, rfl⟩))
                          refine (HV _).mono ?_
                          rintro e w4 ⟨X, rfl, hX, hb4⟩
                          have hXl := hX.le
                          have RR := Lib.hid (show AttR s X (valueOk z) (!valueOk z) from ⟨fun h => by rw [R.out.2.1] at h; exact ⟨(hX.ok h).trans R.out.2.2.symm, h.trans R.out.1.symm, by rw [h]; rfl⟩, fun h => by rw [R.out.2.1] at h; rw [h]; rfl, by omega⟩)
                          obtain ⟨o, ho⟩ : ∃ o, valueOk z = o := ⟨_, rfl⟩
                          rw [ho] at RR ⊢
                          clear hX ho
                          go_wp2
                          go_ret3
                          exact ⟨X, o, !o, rfl, RR.out, ((hb.trans hb2).trans hb3).trans hb4⟩
          · obtain rfl : k = u.size := by omega
            have dl : decide (u.size < u.size) = false := decide_eq_false (by omega)
            have E := DL.out u.size (Nat.le_refl _) hall.out (fun a ha => by rw [at_none u u.size (by omega)] at ha; cases ha)
            have E2 : ByteArray.empty = v := by rw [← E]; refine str_eq ?_; rw [Lib.extract_to_end, List.drop_of_length_le (by rw [size_len]; omega)]; rfl
            cases h61 : (x.data.toList.headD 0 == 61) with
            | false =>
              have R := Lib.hid (R2b.out h61)
              have RR := Lib.hid (show AttR s v true false from ⟨fun _ => ⟨R.out.2.2.symm, R.out.1.symm, rfl⟩, fun h => (by rw [R.out.2.1] at h; cases h), by omega⟩)
              rcases Nat.eq_zero_or_pos x.size with x0 | hxp
              · obtain rfl := str_nil x0
                go_wp2_with (first | (go_at_call 53; (with_reducible refine (HW2 _).mono ?_); rintro e w2 ⟨rfl, hb2⟩) | (go_at_call 74; (with_reducible refine (r08letter_any _ _).mono ?_); rintro e w' ⟨rfl, rfl⟩) | (go_at_call 75; (with_reducible refine (r08digit_any _ _).mono ?_); rintro e w' ⟨rfl, rfl⟩))
                go_ret3
                exact ⟨v, true, false, rfl, RR.out, hb.trans hb2⟩
              have ex1 := isEmpty_false hxp
              have nx : ((x[0].toNat : Int) != 61) = true := by rw [ne_of_byte (c := 61) 61 rfl, ← headD_at x hxp, h61]; rfl
              go_wp2_with (first | (go_at_call 53; (with_reducible refine (HW2 _).mono ?_); rintro e w2 ⟨rfl, hb2⟩) | (go_at_call 74; (with_reducible refine (r08letter_any _ _).mono ?_); rintro e w' ⟨rfl, rfl⟩) | (go_at_call 75; (with_reducible refine (r08digit_any _ _).mono ?_); rintro e w' ⟨rfl, rfl⟩))
              go_ret3
              exact ⟨v, true, false, rfl, RR.out, hb.trans hb2⟩
            | true =>
              have R := Lib.hid (R3b.out h61)
              have hxp : 0 < x.size := by
                rcases Nat.eq_zero_or_pos x.size with x0 | h
                · obtain rfl := str_nil x0; exact absurd h61 (by decide)
                · exact h
              have ex1 := isEmpty_false hxp
              have nx : ((x[0].toNat : Int) != 61) = false := by rw [ne_of_byte (c := 61) 61 rfl, ← headD_at x hxp, h61]; rfl
              go_wp2_with (first | (go_at_call_of 53 (Value.string v); (with_reducible refine (HW2 _).mono ?_); rintro e w2 ⟨rfl, hb2⟩) | (go_at_call 53; (with_reducible refine (HW3 _).mono ?_); rintro e w3 ⟨rfl, hb3⟩) | (go_at_call 76; fail) | (go_at_call 74; (with_reducible refine (r08letter_any _ _).mono ?_); rintro e w' ⟨rfl, rfl⟩) | (go_at_call 75; (with_reducible refine (r08digit_any _ _).mono ?_); rintro e w' ⟨rfl, rfl⟩))
              refine (HV _).mono ?_
              rintro e w4 ⟨X, rfl, hX, hb4⟩
              have hXl := hX.le
              have RR := Lib.hid (show AttR s X (valueOk z) (!valueOk z) from ⟨fun h => by rw [R.out.2.1] at h; exact ⟨(hX.ok h).trans R.out.2.2.symm, h.trans R.out.1.symm, by rw [h]; rfl⟩, fun h => by rw [R.out.2.1] at h; rw [h]; rfl, by omega⟩)
              obtain ⟨o, ho⟩ : ∃ o, valueOk z = o := ⟨_, rfl⟩
              rw [ho] at RR ⊢
              clear hX ho
              go_wp2
              go_ret3
              exact ⟨X, o, !o, rfl, RR.out, ((hb.trans hb2).trans hb3).trans hb4⟩
      | false =>
        rw [h58] at n58
        obtain ⟨q1, q2, q3⟩ := AN.out (fun c => by rw [FL, hl, h95, h58] at c; exact absurd c.2 (by decide))
        have R := Lib.hid (show AttR s s false false from ⟨fun _ => ⟨q3.symm, q1.symm, rfl⟩, fun h => (by rw [q2] at h; cases h), Nat.le_refl _⟩)
        clear q1 q2 q3 AN R2 R3 FL
        go_enter Tryd.func52, Tryd.ntmps52
        go_wp2_with (first | (go_at_call 53; (with_reducible refine HW.mono ?_); rintro e w1 ⟨rfl, hb1⟩) | (go_at_call 74; (with_reducible refine (r08letter_any _ _).mono ?_); rintro e w' ⟨rfl, rfl⟩))
        go_ret3
        exact ⟨s, false, false, rfl, R.out, hb1⟩

end Go.Proofs.YtgamlckdjfjobaaDoor
