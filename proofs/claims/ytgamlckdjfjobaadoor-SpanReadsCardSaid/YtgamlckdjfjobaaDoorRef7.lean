/- The contract of the reference's Tag. -/
import Derived.Test.YtgamlckdjfjobaaDoorRef6
namespace Go.Proofs.YtgamlckdjfjobaaDoor
open Go.RowKit

theorem tag_out (l t2 r : List UInt8) (c : Bool) (h60 : (l.headD 0 == 60) = true) (HH : tagHead l.tail = (c, t2)) (hr : (namedL t2).2 = r) :
    ((namedL t2).1.isEmpty = true → tagL l = 0) ∧
    ((namedL t2).1.isEmpty = false → ((tagMid c r).1 = false → tagL l = 0) ∧
      (∀ u, tagMid c r = (true, u) → ((tagEnd c u).headD 0 == 62) = false → tagL l = 0) ∧
      (∀ u, tagMid c r = (true, u) → ((tagEnd c u).headD 0 == 62) = true → tagL l = l.length - (tagEnd c u).tail.length)) := by
  have E : tagRest l = if (namedL t2).1.isEmpty then none else if (tagMid c r).1 then
      if (tagEnd c (tagMid c r).2).headD 0 == 62 then some (tagEnd c (tagMid c r).2).tail else none else none := by
    unfold tagRest
    rw [if_pos h60, HH]
    show (if (namedL t2).1.isEmpty then none else if (tagMid c (namedL t2).2).1 then if (tagEnd c (tagMid c (namedL t2).2).2).headD 0 == 62 then some (tagEnd c (tagMid c (namedL t2).2).2).tail else none else none) = _
    rw [hr]
  refine ⟨fun h => ?_, fun h => ⟨fun h1 => ?_, fun u h1 h2 => ?_, fun u h1 h2 => ?_⟩⟩
  · unfold tagL; rw [E, h]; rfl
  · unfold tagL; rw [E, h, h1]; rfl
  · unfold tagL; rw [E, h, h1]; show (match (if (tagEnd c u).headD 0 == 62 then some (tagEnd c u).tail else none) with | none => 0 | some r => l.length - r.length) = 0; rw [h2]; rfl
  · unfold tagL; rw [E, h, h1]; show (match (if (tagEnd c u).headD 0 == 62 then some (tagEnd c u).tail else none) with | none => 0 | some r => l.length - r.length) = _; rw [h2]; rfl
theorem attrs_next (f : Nat) (u : ByteArray) (h : attrWhole u = true) :
    (attrIs u = true → attrsL (f + 1) u.data.toList = attrsL f (attrT u).data.toList ∧ (attrT u).size < u.size) ∧ (attrIs u = false → attrsL (f + 1) u.data.toList = (true, (attrT u).data.toList)) := by
  have h' : (attributeL u.data.toList).2.1 = true := h
  constructor
  · intro hi
    have hi' : (attributeL u.data.toList).1 = true := hi
    have := attributeL_lt _ hi'
    rw [attrsL, hi', h']
    refine ⟨rfl, ?_⟩
    unfold attrT; rw [mkB_size, ← size_len]; exact this
  · intro hi
    have hi' : (attributeL u.data.toList).1 = false := hi
    rw [attrsL, hi', h']
    exact Prod.ext h' rfl
theorem attrs_bad (f : Nat) (u : ByteArray) (h : attrWhole u = false) : (attrsL (f + 1) u.data.toList).1 = false := by
  have h' : (attributeL u.data.toList).2.1 = false := h
  rw [attrsL, h', Bool.and_false]
  exact h'
theorem end_yes (u x : ByteArray) (hx : whiteT u = x) : tagEnd true u.data.toList = x.data.toList := by rw [← hx]; rfl
theorem end_no (u x : ByteArray) (hx : whiteT u = x) : tagEnd false u.data.toList = if x.data.toList.headD 0 == 47 then x.data.toList.tail else x.data.toList := by rw [← hx]; rfl

set_option maxRecDepth 100000 in
set_option maxHeartbeats 8000000 in
theorem r08tag_any (s : ByteArray) (w : World) (hs : s.size ≤ 1000000) :
    Calls Tryd.prog 28 #[.string s] w fun e w' => e = .returned (.int .i64 (tagL s.data.toList)) ∧ Bl w w' := by
  rcases Nat.eq_zero_or_pos s.size with e0 | hp
  · obtain rfl := str_nil e0
    go_enter Tryd.func28, Tryd.ntmps28
    go_wp2
    go_ret
    exact ⟨rfl, Bl.refl _⟩
  have e1 := isEmpty_false hp
  have hd := headD_at s hp
  have E60 := eq_of_byte (b := s[0]) (c := 60) 60 rfl
  have N60 : ((s[0].toNat : Int) != 60) = !((s[0].toNat : Int) == 60) := rfl
  cases h60 : ((s[0].toNat : Int) == 60) with
  | false =>
    rw [h60] at E60 N60
    have R := Lib.hid (show tagL s.data.toList = 0 by unfold tagL tagRest; rw [hd, ← E60]; rfl)
    clear hd E60
    go_enter Tryd.func28, Tryd.ntmps28
    go_wp2
    go_ret
    exact ⟨ret_int (by rw [R.out]; rfl), Bl.refl _⟩
  | true =>
    rw [h60] at E60 N60
    have T := Lib.hid (fun t2 r c => tag_out s.data.toList t2 r c (by rw [hd, ← E60]))
    clear hd E60
    have hz1 := tailB_le s
    have ez1 := tailB_eq s
    have Q2 : s.data.toList.tail = (tailB s).data.toList := rfl
    obtain ⟨t1, ht1⟩ : ∃ t1, tailB s = t1 := ⟨_, rfl⟩
    rw [ht1] at hz1 ez1 Q2
    have HD1 := Lib.hid (show t1.data.toList.tail = (s.extract 2 s.size).data.toList by rw [Lib.extract_to_end, ← Q2, ← List.drop_one, ← List.drop_one, List.drop_drop])
    have HDT : t1.data.toList.headD 0 = if h : 1 < s.size then s[1] else 0 := by
      rw [← Q2, List.headD_eq_head?_getD, List.head?_tail]
      by_cases h : 1 < s.size
      · rw [dif_pos h, at_some s 1 h]; rfl
      · rw [dif_neg h, at_none s 1 h]; rfl
    rw [Q2] at T
    clear ht1 Q2
    by_cases h1 : 1 < s.size
    · have d1 : decide (1 < s.size) = true := decide_eq_true h1
      rw [dif_pos h1] at HDT
      have E47 := eq_of_byte (b := s[1]) (c := 47) 47 rfl
      cases h47 : ((s[1].toNat : Int) == 47) with
      | true =>
        rw [h47] at E47
        obtain ⟨t2, ht2⟩ : ∃ t2, s.extract 2 s.size = t2 := ⟨_, rfl⟩
        have hz2 : t2.size ≤ s.size := by rw [← ht2, ByteArray.size_extract]; omega
        rw [ht2] at HD1
        have T0 := Lib.hid (show tagHead t1.data.toList = (true, t2.data.toList) by unfold tagHead; rw [HDT, ← E47, if_pos rfl, HD1.out])
        clear HDT E47 HD1
        have hrz : (restT t2).size ≤ t2.size := by unfold restT; rw [mkB_size, ← size_len]; exact namedL_le _
        have HNM := fun W => r08name_any t2 W (by omega)
        have T1 := T.out _ _ _ T0.out rfl
        obtain ⟨r, hr⟩ : ∃ r, restT t2 = r := ⟨_, rfl⟩
        obtain ⟨n, hn⟩ : ∃ n, nameT t2 = n := ⟨_, rfl⟩
        rw [show (namedL t2.data.toList).2 = r.data.toList by rw [← hr]; rfl, show (namedL t2.data.toList).1 = n.data.toList by rw [← hn]; rfl] at T1
        rw [hr, hn] at HNM
        rw [hr] at hrz
        clear hr hn T T0
        rcases Nat.eq_zero_or_pos n.size with n0 | hnp
        · obtain rfl := str_nil n0
          have R := Lib.hid (T1.1 rfl)
          clear T1
          go_enter Tryd.func28, Tryd.ntmps28
          go_wp2_with (first | (go_at_call 51; (with_reducible refine (HNM _).mono ?_); rintro e w1 ⟨rfl, hb1⟩))
          go_ret
          exact ⟨ret_int (by rw [R.out]; rfl), hb1⟩
        have n1 := isEmpty_false hnp
        obtain ⟨T2, T3, T4⟩ := T1.2 (data_isEmpty_false hnp)
        clear T1
        have M0 : tagMid true r.data.toList = (true, r.data.toList) := rfl
        obtain ⟨M, hM⟩ : ∃ M, tagMid true r.data.toList = M := ⟨_, rfl⟩
        rw [hM] at M0 T2 T3 T4
        have T2 := Lib.hid T2
        have T3 := Lib.hid T3
        have T4 := Lib.hid T4
        have M0 := Lib.hid M0
        clear hM
        go_enter Tryd.func28, Tryd.ntmps28
        go_wp2_with (first | (go_at_call 51; (with_reducible refine (HNM _).mono ?_); rintro e w1 ⟨rfl, hb1⟩))
        clear HNM hnp n1
        go_loopg [4, 6, 7, 8, 9] (s.size + 1) (fun f v4 v6 v7 v8 v9 wr => ∃ (u : ByteArray) (m : Bool), v4 = .string u ∧ v6 = .bool m ∧ u.size ≤ r.size ∧ (m = true → u.size < f) ∧ Bl w wr ∧ Hid ((m = true → M = attrsL f u.data.toList) ∧ (m = false → M = (true, u.data.toList))))
        case atStart => exact ⟨r, false, rfl, rfl, Nat.le_refl _, (fun h => by cases h), hb1, Lib.hid ⟨(fun h => by cases h), fun _ => M0.out⟩⟩
        case round =>
          obtain ⟨u, m, rfl, rfl, hur, huf, hb, hrel⟩ := hrel
          clear hb1
          cases m with
          | true =>
            cases gk with
            | zero => have := huf rfl; omega
            | succ f =>
              have huf := huf rfl
              have HR := Lib.hid (hrel.out.1 rfl)
              clear hrel
              go_wp2_with fail
              refine (r08attribute_any u _ (by omega)).mono ?_
              rintro e w2 ⟨X, A, B, rfl, hA, hb2⟩
              cases hw : attrWhole u with
              | true =>
                obtain ⟨eX, eA, rfl⟩ := hA.ok hw
                have N := attrs_next f u hw
                have hXl := hA.le
                rw [← eX, ← eA] at N
                have N := Lib.hid N
                clear hA eX eA hw
                go_wp2
                go_roundg f
                case rel => exact ⟨X, A, rfl, rfl, by omega, (fun h => by have := (N.out.1 h).2; omega), hb.trans hb2, Lib.hid ⟨fun h => HR.out.trans (N.out.1 h).1, fun h => HR.out.trans (N.out.2 h)⟩⟩
                case measure => omega
              | false =>
                obtain rfl := hA.bad hw
                have R := Lib.hid (T2.out ((congrArg Prod.fst HR.out).trans (attrs_bad f u hw)))
                clear hA hw
                go_wp2
                go_ret
                exact ⟨ret_int (by rw [R.out]; rfl), hb.trans hb2⟩
          | false =>
            have T3 := Lib.hid (T3.out _ (hrel.out.2 rfl))
            have T4 := Lib.hid (T4.out _ (hrel.out.2 rfl))
            have hwz := whiteT_le u
            have HW := fun W => skip_any u W (by omega)
            obtain ⟨x2, hx⟩ : ∃ x2, whiteT u = x2 := ⟨_, rfl⟩
            rw [hx] at HW hwz
            have HE := end_yes u x2 hx
            clear hx hrel
            have T3 := T3.out
            have T4 := T4.out
            rw [HE] at T3 T4
            clear HE
            rcases Nat.eq_zero_or_pos x2.size with y0 | hyp
            · obtain rfl := str_nil y0
              have R := Lib.hid (T3 rfl)
              clear T3 T4
              go_wp2_with (first | (go_at_call 53; (with_reducible refine (HW _).mono ?_); rintro e w2 ⟨rfl, hb2⟩))
              go_ret
              exact ⟨ret_int (by rw [R.out]; rfl), hb.trans hb2⟩
            have y1 := isEmpty_false hyp
            have yd := headD_at x2 hyp
            have E62 := eq_of_byte (b := x2[0]) (c := 62) 62 rfl
            have N62 : ((x2[0].toNat : Int) != 62) = !((x2[0].toNat : Int) == 62) := rfl
            have yt := tailB_size x2 hyp
            cases h62 : ((x2[0].toNat : Int) == 62) with
            | false =>
              rw [h62] at E62 N62
              have R := Lib.hid (T3 (by rw [yd, ← E62]))
              clear T3 T4 yd E62
              go_wp2_with (first | (go_at_call 53; (with_reducible refine (HW _).mono ?_); rintro e w2 ⟨rfl, hb2⟩))
              go_ret
              exact ⟨ret_int (by rw [R.out]; rfl), hb.trans hb2⟩
            | true =>
              rw [h62] at E62 N62
              have R := Lib.hid (show (tagL s.data.toList : Int) = (s.size : Int) - (x2.size : Int) + 1 by rw [T4 (by rw [yd, ← E62]), size_len, show x2.data.toList.tail = (tailB x2).data.toList from rfl, size_len]; omega)
              clear T3 T4 yd E62
              go_wp2_with (first | (go_at_call 53; (with_reducible refine (HW _).mono ?_); rintro e w2 ⟨rfl, hb2⟩))
              go_ret
              exact ⟨ret_int (by rw [R.out]), hb.trans hb2⟩
      | false =>
        rw [h47] at E47
        have T0 := Lib.hid (show tagHead t1.data.toList = (false, t1.data.toList) by unfold tagHead; rw [HDT, ← E47, if_neg (by decide)])
        clear HDT E47 HD1
        have hrz : (restT t1).size ≤ t1.size := by unfold restT; rw [mkB_size, ← size_len]; exact namedL_le _
        have HNM := fun W => r08name_any t1 W (by omega)
        have T1 := T.out _ _ _ T0.out rfl
        obtain ⟨r, hr⟩ : ∃ r, restT t1 = r := ⟨_, rfl⟩
        obtain ⟨n, hn⟩ : ∃ n, nameT t1 = n := ⟨_, rfl⟩
        rw [show (namedL t1.data.toList).2 = r.data.toList by rw [← hr]; rfl, show (namedL t1.data.toList).1 = n.data.toList by rw [← hn]; rfl] at T1
        rw [hr, hn] at HNM
        rw [hr] at hrz
        clear hr hn T T0
        rcases Nat.eq_zero_or_pos n.size with n0 | hnp
        · obtain rfl := str_nil n0
          have R := Lib.hid (T1.1 rfl)
          clear T1
          go_enter Tryd.func28, Tryd.ntmps28
          go_wp2_with (first | (go_at_call 51; (with_reducible refine (HNM _).mono ?_); rintro e w1 ⟨rfl, hb1⟩))
          go_ret
          exact ⟨ret_int (by rw [R.out]; rfl), hb1⟩
        have n1 := isEmpty_false hnp
        obtain ⟨T2, T3, T4⟩ := T1.2 (data_isEmpty_false hnp)
        clear T1
        have M0 : tagMid false r.data.toList = attrsL (r.size + 1) r.data.toList := by rw [← size_len]; rfl
        obtain ⟨M, hM⟩ : ∃ M, tagMid false r.data.toList = M := ⟨_, rfl⟩
        rw [hM] at M0 T2 T3 T4
        have T2 := Lib.hid T2
        have T3 := Lib.hid T3
        have T4 := Lib.hid T4
        have M0 := Lib.hid M0
        clear hM
        go_enter Tryd.func28, Tryd.ntmps28
        go_wp2_with (first | (go_at_call 51; (with_reducible refine (HNM _).mono ?_); rintro e w1 ⟨rfl, hb1⟩))
        clear HNM hnp n1
        go_loopg [4, 6, 7, 8, 9] (s.size + 1) (fun f v4 v6 v7 v8 v9 wr => ∃ (u : ByteArray) (m : Bool), v4 = .string u ∧ v6 = .bool m ∧ u.size ≤ r.size ∧ (m = true → u.size < f) ∧ Bl w wr ∧ Hid ((m = true → M = attrsL f u.data.toList) ∧ (m = false → M = (true, u.data.toList))))
        case atStart => exact ⟨r, true, rfl, rfl, Nat.le_refl _, (fun _ => by omega), hb1, Lib.hid ⟨fun _ => M0.out.trans (attrsL_fuel _ _ _ (by rw [size_len]; omega) (by rw [size_len]; omega)), fun h => by cases h⟩⟩
        case round =>
          obtain ⟨u, m, rfl, rfl, hur, huf, hb, hrel⟩ := hrel
          clear hb1
          cases m with
          | true =>
            cases gk with
            | zero => have := huf rfl; omega
            | succ f =>
              have huf := huf rfl
              have HR := Lib.hid (hrel.out.1 rfl)
              clear hrel
              go_wp2_with fail
              refine (r08attribute_any u _ (by omega)).mono ?_
              rintro e w2 ⟨X, A, B, rfl, hA, hb2⟩
              cases hw : attrWhole u with
              | true =>
                obtain ⟨eX, eA, rfl⟩ := hA.ok hw
                have N := attrs_next f u hw
                have hXl := hA.le
                rw [← eX, ← eA] at N
                have N := Lib.hid N
                clear hA eX eA hw
                go_wp2
                go_roundg f
                case rel => exact ⟨X, A, rfl, rfl, by omega, (fun h => by have := (N.out.1 h).2; omega), hb.trans hb2, Lib.hid ⟨fun h => HR.out.trans (N.out.1 h).1, fun h => HR.out.trans (N.out.2 h)⟩⟩
                case measure => omega
              | false =>
                obtain rfl := hA.bad hw
                have R := Lib.hid (T2.out ((congrArg Prod.fst HR.out).trans (attrs_bad f u hw)))
                clear hA hw
                go_wp2
                go_ret
                exact ⟨ret_int (by rw [R.out]; rfl), hb.trans hb2⟩
          | false =>
            have T3 := Lib.hid (T3.out _ (hrel.out.2 rfl))
            have T4 := Lib.hid (T4.out _ (hrel.out.2 rfl))
            have hwz := whiteT_le u
            have HW := fun W => skip_any u W (by omega)
            obtain ⟨x2, hx⟩ : ∃ x2, whiteT u = x2 := ⟨_, rfl⟩
            rw [hx] at HW hwz
            have HE := end_no u x2 hx
            clear hx hrel
            rcases Nat.eq_zero_or_pos x2.size with x0 | hxp
            · obtain rfl := str_nil x0
              have R := Lib.hid (T3.out (by rw [HE]; rfl))
              clear T3 T4 HE
              go_wp2_with (first | (go_at_call 53; (with_reducible refine (HW _).mono ?_); rintro e w2 ⟨rfl, hb2⟩))
              go_ret
              exact ⟨ret_int (by rw [R.out]; rfl), hb.trans hb2⟩
            have x1 := isEmpty_false hxp
            have xd := headD_at x2 hxp
            have E47 := eq_of_byte (b := x2[0]) (c := 47) 47 rfl
            have xz := tailB_le x2
            have xe := tailB_eq x2
            cases h47 : ((x2[0].toNat : Int) == 47) with
            | true =>
              rw [h47] at E47
              rw [xd, ← E47, if_pos rfl, show x2.data.toList.tail = (tailB x2).data.toList from rfl] at HE
              obtain ⟨y2, hy2⟩ : ∃ y2, tailB x2 = y2 := ⟨_, rfl⟩
              rw [hy2] at HE xz xe
              clear hy2 xd E47
              have T3 := T3.out
              have T4 := T4.out
              rw [HE] at T3 T4
              clear HE
              rcases Nat.eq_zero_or_pos y2.size with y0 | hyp
              · obtain rfl := str_nil y0
                have R := Lib.hid (T3 rfl)
                clear T3 T4
                go_wp2_with (first | (go_at_call 53; (with_reducible refine (HW _).mono ?_); rintro e w2 ⟨rfl, hb2⟩))
                go_ret
                exact ⟨ret_int (by rw [R.out]; rfl), hb.trans hb2⟩
              have y1 := isEmpty_false hyp
              have yd := headD_at y2 hyp
              have E62 := eq_of_byte (b := y2[0]) (c := 62) 62 rfl
              have N62 : ((y2[0].toNat : Int) != 62) = !((y2[0].toNat : Int) == 62) := rfl
              have yt := tailB_size y2 hyp
              cases h62 : ((y2[0].toNat : Int) == 62) with
              | false =>
                rw [h62] at E62 N62
                have R := Lib.hid (T3 (by rw [yd, ← E62]))
                clear T3 T4 yd E62
                go_wp2_with (first | (go_at_call 53; (with_reducible refine (HW _).mono ?_); rintro e w2 ⟨rfl, hb2⟩))
                go_ret
                exact ⟨ret_int (by rw [R.out]; rfl), hb.trans hb2⟩
              | true =>
                rw [h62] at E62 N62
                have R := Lib.hid (show (tagL s.data.toList : Int) = (s.size : Int) - (y2.size : Int) + 1 by rw [T4 (by rw [yd, ← E62]), size_len, show y2.data.toList.tail = (tailB y2).data.toList from rfl, size_len]; omega)
                clear T3 T4 yd E62
                go_wp2_with (first | (go_at_call 53; (with_reducible refine (HW _).mono ?_); rintro e w2 ⟨rfl, hb2⟩))
                go_ret
                exact ⟨ret_int (by rw [R.out]), hb.trans hb2⟩
            | false =>
              rw [h47] at E47
              rw [xd, ← E47, if_neg (by decide)] at HE
              clear xd E47 xe xz
              have T3 := T3.out
              have T4 := T4.out
              rw [HE] at T3 T4
              clear HE
              rcases Nat.eq_zero_or_pos x2.size with y0 | hyp
              · obtain rfl := str_nil y0
                have R := Lib.hid (T3 rfl)
                clear T3 T4
                go_wp2_with (first | (go_at_call 53; (with_reducible refine (HW _).mono ?_); rintro e w2 ⟨rfl, hb2⟩))
                go_ret
                exact ⟨ret_int (by rw [R.out]; rfl), hb.trans hb2⟩
              have y1 := isEmpty_false hyp
              have yd := headD_at x2 hyp
              have E62 := eq_of_byte (b := x2[0]) (c := 62) 62 rfl
              have N62 : ((x2[0].toNat : Int) != 62) = !((x2[0].toNat : Int) == 62) := rfl
              have yt := tailB_size x2 hyp
              cases h62 : ((x2[0].toNat : Int) == 62) with
              | false =>
                rw [h62] at E62 N62
                have R := Lib.hid (T3 (by rw [yd, ← E62]))
                clear T3 T4 yd E62
                go_wp2_with (first | (go_at_call 53; (with_reducible refine (HW _).mono ?_); rintro e w2 ⟨rfl, hb2⟩))
                go_ret
                exact ⟨ret_int (by rw [R.out]; rfl), hb.trans hb2⟩
              | true =>
                rw [h62] at E62 N62
                have R := Lib.hid (show (tagL s.data.toList : Int) = (s.size : Int) - (x2.size : Int) + 1 by rw [T4 (by rw [yd, ← E62]), size_len, show x2.data.toList.tail = (tailB x2).data.toList from rfl, size_len]; omega)
                clear T3 T4 yd E62
                go_wp2_with (first | (go_at_call 53; (with_reducible refine (HW _).mono ?_); rintro e w2 ⟨rfl, hb2⟩))
                go_ret
                exact ⟨ret_int (by rw [R.out]), hb.trans hb2⟩
    · have d1 : decide (1 < s.size) = false := decide_eq_false h1
      rw [dif_neg h1] at HDT
      have T0 := Lib.hid (show tagHead t1.data.toList = (false, t1.data.toList) by unfold tagHead; rw [HDT, if_neg (by decide)])
      clear HDT HD1
      have hrz : (restT t1).size ≤ t1.size := by unfold restT; rw [mkB_size, ← size_len]; exact namedL_le _
      have HNM := fun W => r08name_any t1 W (by omega)
      have T1 := T.out _ _ _ T0.out rfl
      obtain ⟨r, hr⟩ : ∃ r, restT t1 = r := ⟨_, rfl⟩
      obtain ⟨n, hn⟩ : ∃ n, nameT t1 = n := ⟨_, rfl⟩
      rw [show (namedL t1.data.toList).2 = r.data.toList by rw [← hr]; rfl, show (namedL t1.data.toList).1 = n.data.toList by rw [← hn]; rfl] at T1
      rw [hr, hn] at HNM
      rw [hr] at hrz
      clear hr hn T T0
      rcases Nat.eq_zero_or_pos n.size with n0 | hnp
      · obtain rfl := str_nil n0
        have R := Lib.hid (T1.1 rfl)
        clear T1
        go_enter Tryd.func28, Tryd.ntmps28
        go_wp2_with (first | (go_at_call 51; (with_reducible refine (HNM _).mono ?_); rintro e w1 ⟨rfl, hb1⟩))
        go_ret
        exact ⟨ret_int (by rw [R.out]; rfl), hb1⟩
      have n1 := isEmpty_false hnp
      obtain ⟨T2, T3, T4⟩ := T1.2 (data_isEmpty_false hnp)
      clear T1
      have M0 : tagMid false r.data.toList = attrsL (r.size + 1) r.data.toList := by rw [← size_len]; rfl
      obtain ⟨M, hM⟩ : ∃ M, tagMid false r.data.toList = M := ⟨_, rfl⟩
      rw [hM] at M0 T2 T3 T4
      have T2 := Lib.hid T2
      have T3 := Lib.hid T3
      have T4 := Lib.hid T4
      have M0 := Lib.hid M0
      clear hM
      go_enter Tryd.func28, Tryd.ntmps28
      go_wp2_with (first | (go_at_call 51; (with_reducible refine (HNM _).mono ?_); rintro e w1 ⟨rfl, hb1⟩))
      clear HNM hnp n1
      go_loopg [4, 6, 7, 8, 9] (s.size + 1) (fun f v4 v6 v7 v8 v9 wr => ∃ (u : ByteArray) (m : Bool), v4 = .string u ∧ v6 = .bool m ∧ u.size ≤ r.size ∧ (m = true → u.size < f) ∧ Bl w wr ∧ Hid ((m = true → M = attrsL f u.data.toList) ∧ (m = false → M = (true, u.data.toList))))
      case atStart => exact ⟨r, true, rfl, rfl, Nat.le_refl _, (fun _ => by omega), hb1, Lib.hid ⟨fun _ => M0.out.trans (attrsL_fuel _ _ _ (by rw [size_len]; omega) (by rw [size_len]; omega)), fun h => by cases h⟩⟩
      case round =>
        obtain ⟨u, m, rfl, rfl, hur, huf, hb, hrel⟩ := hrel
        clear hb1
        cases m with
        | true =>
          cases gk with
          | zero => have := huf rfl; omega
          | succ f =>
            have huf := huf rfl
            have HR := Lib.hid (hrel.out.1 rfl)
            clear hrel
            go_wp2_with fail
            refine (r08attribute_any u _ (by omega)).mono ?_
            rintro e w2 ⟨X, A, B, rfl, hA, hb2⟩
            cases hw : attrWhole u with
            | true =>
              obtain ⟨eX, eA, rfl⟩ := hA.ok hw
              have N := attrs_next f u hw
              have hXl := hA.le
              rw [← eX, ← eA] at N
              have N := Lib.hid N
              clear hA eX eA hw
              go_wp2
              go_roundg f
              case rel => exact ⟨X, A, rfl, rfl, by omega, (fun h => by have := (N.out.1 h).2; omega), hb.trans hb2, Lib.hid ⟨fun h => HR.out.trans (N.out.1 h).1, fun h => HR.out.trans (N.out.2 h)⟩⟩
              case measure => omega
            | false =>
              obtain rfl := hA.bad hw
              have R := Lib.hid (T2.out ((congrArg Prod.fst HR.out).trans (attrs_bad f u hw)))
              clear hA hw
              go_wp2
              go_ret
              exact ⟨ret_int (by rw [R.out]; rfl), hb.trans hb2⟩
        | false =>
          have T3 := Lib.hid (T3.out _ (hrel.out.2 rfl))
          have T4 := Lib.hid (T4.out _ (hrel.out.2 rfl))
          have hwz := whiteT_le u
          have HW := fun W => skip_any u W (by omega)
          obtain ⟨x2, hx⟩ : ∃ x2, whiteT u = x2 := ⟨_, rfl⟩
          rw [hx] at HW hwz
          have HE := end_no u x2 hx
          clear hx hrel
          rcases Nat.eq_zero_or_pos x2.size with x0 | hxp
          · obtain rfl := str_nil x0
            have R := Lib.hid (T3.out (by rw [HE]; rfl))
            clear T3 T4 HE
            go_wp2_with (first | (go_at_call 53; (with_reducible refine (HW _).mono ?_); rintro e w2 ⟨rfl, hb2⟩))
            go_ret
            exact ⟨ret_int (by rw [R.out]; rfl), hb.trans hb2⟩
          have x1 := isEmpty_false hxp
          have xd := headD_at x2 hxp
          have E47 := eq_of_byte (b := x2[0]) (c := 47) 47 rfl
          have xz := tailB_le x2
          have xe := tailB_eq x2
          cases h47 : ((x2[0].toNat : Int) == 47) with
          | true =>
            rw [h47] at E47
            rw [xd, ← E47, if_pos rfl, show x2.data.toList.tail = (tailB x2).data.toList from rfl] at HE
            obtain ⟨y2, hy2⟩ : ∃ y2, tailB x2 = y2 := ⟨_, rfl⟩
            rw [hy2] at HE xz xe
            clear hy2 xd E47
            have T3 := T3.out
            have T4 := T4.out
            rw [HE] at T3 T4
            clear HE
            rcases Nat.eq_zero_or_pos y2.size with y0 | hyp
            · obtain rfl := str_nil y0
              have R := Lib.hid (T3 rfl)
              clear T3 T4
              go_wp2_with (first | (go_at_call 53; (with_reducible refine (HW _).mono ?_); rintro e w2 ⟨rfl, hb2⟩))
              go_ret
              exact ⟨ret_int (by rw [R.out]; rfl), hb.trans hb2⟩
            have y1 := isEmpty_false hyp
            have yd := headD_at y2 hyp
            have E62 := eq_of_byte (b := y2[0]) (c := 62) 62 rfl
            have N62 : ((y2[0].toNat : Int) != 62) = !((y2[0].toNat : Int) == 62) := rfl
            have yt := tailB_size y2 hyp
            cases h62 : ((y2[0].toNat : Int) == 62) with
            | false =>
              rw [h62] at E62 N62
              have R := Lib.hid (T3 (by rw [yd, ← E62]))
              clear T3 T4 yd E62
              go_wp2_with (first | (go_at_call 53; (with_reducible refine (HW _).mono ?_); rintro e w2 ⟨rfl, hb2⟩))
              go_ret
              exact ⟨ret_int (by rw [R.out]; rfl), hb.trans hb2⟩
            | true =>
              rw [h62] at E62 N62
              have R := Lib.hid (show (tagL s.data.toList : Int) = (s.size : Int) - (y2.size : Int) + 1 by rw [T4 (by rw [yd, ← E62]), size_len, show y2.data.toList.tail = (tailB y2).data.toList from rfl, size_len]; omega)
              clear T3 T4 yd E62
              go_wp2_with (first | (go_at_call 53; (with_reducible refine (HW _).mono ?_); rintro e w2 ⟨rfl, hb2⟩))
              go_ret
              exact ⟨ret_int (by rw [R.out]), hb.trans hb2⟩
          | false =>
            rw [h47] at E47
            rw [xd, ← E47, if_neg (by decide)] at HE
            clear xd E47 xe xz
            have T3 := T3.out
            have T4 := T4.out
            rw [HE] at T3 T4
            clear HE
            rcases Nat.eq_zero_or_pos x2.size with y0 | hyp
            · obtain rfl := str_nil y0
              have R := Lib.hid (T3 rfl)
              clear T3 T4
              go_wp2_with (first | (go_at_call 53; (with_reducible refine (HW _).mono ?_); rintro e w2 ⟨rfl, hb2⟩))
              go_ret
              exact ⟨ret_int (by rw [R.out]; rfl), hb.trans hb2⟩
            have y1 := isEmpty_false hyp
            have yd := headD_at x2 hyp
            have E62 := eq_of_byte (b := x2[0]) (c := 62) 62 rfl
            have N62 : ((x2[0].toNat : Int) != 62) = !((x2[0].toNat : Int) == 62) := rfl
            have yt := tailB_size x2 hyp
            cases h62 : ((x2[0].toNat : Int) == 62) with
            | false =>
              rw [h62] at E62 N62
              have R := Lib.hid (T3 (by rw [yd, ← E62]))
              clear T3 T4 yd E62
              go_wp2_with (first | (go_at_call 53; (with_reducible refine (HW _).mono ?_); rintro e w2 ⟨rfl, hb2⟩))
              go_ret
              exact ⟨ret_int (by rw [R.out]; rfl), hb.trans hb2⟩
            | true =>
              rw [h62] at E62 N62
              have R := Lib.hid (show (tagL s.data.toList : Int) = (s.size : Int) - (x2.size : Int) + 1 by rw [T4 (by rw [yd, ← E62]), size_len, show x2.data.toList.tail = (tailB x2).data.toList from rfl, size_len]; omega)
              clear T3 T4 yd E62
              go_wp2_with (first | (go_at_call 53; (with_reducible refine (HW _).mono ?_); rintro e w2 ⟨rfl, hb2⟩))
              go_ret
              exact ⟨ret_int (by rw [R.out]), hb.trans hb2⟩

end Go.Proofs.YtgamlckdjfjobaaDoor
