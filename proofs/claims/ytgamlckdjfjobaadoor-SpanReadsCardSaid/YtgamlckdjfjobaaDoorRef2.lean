/- Contracts of the references' upTo, skip, Name, address. -/
import Derived.Test.YtgamlckdjfjobaaDoorRef1
namespace Go.Proofs.YtgamlckdjfjobaaDoor
open Go.RowKit

theorem occ_drop (l e : List UInt8) (b j : Nat) : Lib.occAt (l.drop b) e j = Lib.occAt l e (b + j) := by
  unfold Lib.occAt; rw [List.drop_drop]

set_option maxHeartbeats 1000000 in
theorem upTo_any (s b e : ByteArray) (w : World) (hs : s.size ≤ 1000000) (hb0 : b.size ≤ s.size) (he : e.size ≤ 1000) (he0 : 0 < e.size) :
    Calls Tryd.prog 30 #[.string s, .string b, .string e] w fun en w' => en = .returned (.int .i64 (betweenL b.data.toList e.data.toList s.data.toList)) ∧ Bl w w' := by
  go_enter Tryd.func30, Tryd.ntmps30
  go_wp2
  go_loopw [7] (fun i wr => ∃ k : Nat, b.size ≤ k ∧ k ≤ s.size ∧ i = .int .i64 k ∧ Bl w wr ∧ Hid (∀ j, b.size + j < k → Lib.occAt s.data.toList e.data.toList (b.size + j) = false)) (fun i _ => s.size + 1 - (intOf i).toNat)
  case atStart => exact ⟨b.size, Nat.le_refl _, hb0, rfl, Bl.refl _, Lib.hid (fun j hj => absurd hj (by omega))⟩
  case round =>
    obtain ⟨k, hk1, hk, rfl, hb, hno⟩ := hrel
    by_cases hlt : k + e.size ≤ s.size
    · have P := piece_beq s e k hlt
      have d : decide ((k : Int) + (e.size : Int) ≤ (s.size : Int)) = true := decide_eq_true (by omega)
      obtain ⟨o, ho⟩ : ∃ o, Lib.occAt s.data.toList e.data.toList k = o := ⟨_, rfl⟩
      rw [ho] at P
      have O := Lib.hid ho
      have tn : ((k : Int) + (e.size : Int)).toNat = k + e.size := by omega
      clear ho
      cases o with
      | true =>
        have R := Lib.hid (show (betweenL b.data.toList e.data.toList s.data.toList : Int) = (k : Int) + (e.size : Int) by
          have hi : Lib.index (s.data.toList.drop b.size) e.data.toList = ((k - b.size : Nat) : Int) := by
            refine Lib.index_first (by rw [List.length_drop, size_len]; omega) ?_ ?_
            · rw [occ_drop, show b.size + (k - b.size) = k by omega]; exact O.out
            · intro j hj; rw [occ_drop]; exact hno.out j (by omega)
          unfold betweenL
          rw [size_len, hi, if_pos (by omega), size_len]
          omega)
        go_wp2
        go_ret
        exact ⟨ret_int (by rw [R.out]), hb⟩
      | false =>
        go_wp2
        go_roundw
        case rel => exact ⟨k + 1, by omega, by omega, by go_num, hb, Lib.hid (fun j hj => by
          rcases Nat.lt_or_ge (b.size + j) k with h | h
          · exact hno.out j h
          · rw [show b.size + j = k by omega]; exact O.out)⟩
        case measure => simp [intOf]; omega
    · have d : decide ((k : Int) + (e.size : Int) ≤ (s.size : Int)) = false := decide_eq_false (by omega)
      have R := Lib.hid (show betweenL b.data.toList e.data.toList s.data.toList = 0 by
        have hi : Lib.index (s.data.toList.drop b.size) e.data.toList = -1 := by
          refine Lib.index_none ?_
          intro j hj
          rw [occ_drop]
          rcases Nat.lt_or_ge (b.size + j) k with h | h
          · exact hno.out j h
          · cases ee : Lib.occAt s.data.toList e.data.toList (b.size + j) with
            | false => rfl
            | true =>
              have := (List.isPrefixOf_iff_prefix.mp ee).length_le
              rw [List.length_drop, size_len, size_len] at this
              exfalso; omega
        unfold betweenL
        rw [size_len, hi, if_neg (by decide)])
      go_wp2
      go_ret
      exact ⟨ret_int (by rw [R.out]; rfl), hb⟩

/-! ### skip -/
theorem whiteL_cons (a : UInt8) (l : List UInt8) : whiteL (a :: l) = if whiteS.contains a then whiteL l else a :: l := by
  unfold whiteL cutL; rw [List.dropWhile_cons]
theorem tailB_size (t : ByteArray) (h : 0 < t.size) : (tailB t).size + 1 = t.size := by
  unfold tailB; rw [mkB_size, List.length_tail, size_len]; omega
theorem white_head (t : ByteArray) (h : 0 < t.size) : whiteL t.data.toList = if whiteS.contains t[0] then whiteL (tailB t).data.toList else t.data.toList := by
  have hd := headD_at t h
  have ht : (tailB t).data.toList = t.data.toList.tail := rfl
  rw [ht]
  cases hl : t.data.toList with
  | nil => have := size_len t; rw [hl] at this; simp at this; omega
  | cons a l =>
    rw [hl] at hd
    have : a = t[0] := hd
    rw [whiteL_cons, List.tail_cons, this]

set_option maxHeartbeats 1000000 in
theorem skip_any (s : ByteArray) (w : World) (_hs : s.size ≤ 1000000) :
    Calls Tryd.prog 53 #[.string s] w fun e w' => e = .returned (.string (whiteT s)) ∧ Bl w w' := by
  go_enter Tryd.func53, Tryd.ntmps53
  go_wp2
  go_loopg [0] (s.size + 1) (fun f v wr => ∃ u : ByteArray, v = .string u ∧ u.size < f ∧ u.size ≤ s.size ∧ Bl w wr ∧ Hid (whiteL u.data.toList = whiteL s.data.toList)) 
  case atStart => exact ⟨s, rfl, by omega, Nat.le_refl _, Bl.refl _, Lib.hid rfl⟩
  case round =>
    obtain ⟨u, rfl, hu, hus, hb, hrel⟩ := hrel
    cases gk with
    | zero => omega
    | succ f =>
      rcases Nat.eq_zero_or_pos u.size with e0 | hp
      · obtain rfl := str_nil e0
        have R := Lib.hid (show whiteT s = ⟨#[]⟩ by unfold whiteT; rw [show cutL whiteS s.data.toList = whiteL s.data.toList from rfl, ← hrel.out]; rfl)
        go_wp2
        go_ret
        exact ⟨ret_str (by rw [R.out]), hb⟩
      · have d : decide (0 < u.size) = true := decide_eq_true hp
        have W := white_head u hp
        have hwb := whiteI_byte u[0]
        have te := tailB_eq u
        have ts := tailB_size u hp
        cases hw : whiteI (u[0].toNat : Int) with
        | true =>
          rw [hw] at hwb
          have H := Lib.hid (show whiteL (tailB u).data.toList = whiteL s.data.toList by rw [← hrel.out, W, ← hwb]; rfl)
          clear W hwb
          go_wp2_with (first | (go_at_call 77; (with_reducible refine (r08white_any _ _).mono ?_); rintro e w' ⟨rfl, rfl⟩))
          go_roundg f
          case rel => exact ⟨tailB u, rfl, by omega, by omega, hb, H⟩
          case measure => omega
        | false =>
          rw [hw] at hwb
          have R := Lib.hid (show whiteT s = u by
            unfold whiteT; rw [show cutL whiteS s.data.toList = whiteL s.data.toList from rfl, ← hrel.out, W, ← hwb]; exact mkB_self u)
          clear W hwb
          go_wp2_with (first | (go_at_call 77; (with_reducible refine (r08white_any _ _).mono ?_); rintro e w' ⟨rfl, rfl⟩))
          go_ret
          exact ⟨ret_str (by rw [R.out]), hb⟩

/-! ### Name -/
set_option maxHeartbeats 1000000 in
theorem r08name_any (t : ByteArray) (w : World) (hs : t.size ≤ 1000000) :
    Calls Tryd.prog 51 #[.string t] w fun e w' => e = .returned (.tuple #[.string (nameT t), .string (restT t)]) ∧ Bl w w' := by
  rcases Nat.eq_zero_or_pos t.size with e | hp
  · obtain rfl := str_nil e
    go_enter Tryd.func51, Tryd.ntmps51
    go_wp2
    go_ret2
    exact ⟨rfl, Bl.refl _⟩
  · have e1 := isEmpty_false hp
    have hd := headD_at t hp
    cases hl : letterI (t[0].toNat : Int) with
    | false =>
      have R : nameT t = ⟨#[]⟩ ∧ restT t = t := by
        unfold nameT restT namedL
        rw [hd, hl]
        exact ⟨rfl, mkB_self t⟩
      have R2 := Lib.hid R
      clear hd R
      go_enter Tryd.func51, Tryd.ntmps51
      go_wp2_with (first | (go_at_call 74; (with_reducible refine (r08letter_any _ _).mono ?_); rintro e w' ⟨rfl, rfl⟩))
      go_ret2
      exact ⟨by rw [R2.out.1, R2.out.2]; rfl, Bl.refl _⟩
    | true =>
      have HL := Lib.hid (show letterI ((t.data.toList.headD 0).toNat : Int) = true by rw [hd]; exact hl)
      clear hd
      go_enter Tryd.func51, Tryd.ntmps51
      go_wp2_with (first | (go_at_call 74; (with_reducible refine (r08letter_any _ _).mono ?_); rintro e w' ⟨rfl, rfl⟩))
      clear hl
      go_loopw [4] (fun i wr => ∃ k : Nat, 1 ≤ k ∧ k ≤ t.size ∧ i = .int .i64 k ∧ Bl w wr ∧ Hid (((t.data.toList.take k).tail).all nameB = true)) (fun i _ => t.size - (intOf i).toNat)
      case atStart => exact ⟨1, Nat.le_refl _, hp, rfl, Bl.refl _, Lib.hid (by cases t.data.toList <;> simp)⟩
      case round =>
        obtain ⟨k, h1k, hk, rfl, hb, hall⟩ := hrel
        by_cases hlt : k < t.size
        · have HK := Lib.hid (tail_all_succ t nameB k h1k hlt)
          have hq : nameB t[k] = (letterI (t[k].toNat : Int) || digitI (t[k].toNat : Int) || ((t[k].toNat : Int) == 45)) := by rw [name_byte]; rfl
          have HQ := Lib.hid hq
          have AT := Lib.hid (at_some t k hlt)
          clear hq
          cases hl : letterI (t[k].toNat : Int) with
          | true =>
            rw [hl] at HQ
            go_wp2_with (first | (go_at_call 74; (with_reducible refine (r08letter_any _ _).mono ?_); rintro e w' ⟨rfl, rfl⟩))
            go_roundw
            case rel => exact ⟨k + 1, by omega, by omega, by go_num, hb, Lib.hid (by rw [HK.out, hall.out, HQ.out]; rfl)⟩
            case measure => simp [intOf]; omega
          | false =>
            cases hdg : digitI (t[k].toNat : Int) with
            | true =>
              rw [hdg] at HQ
              go_wp2_with (first | (go_at_call 74; (with_reducible refine (r08letter_any _ _).mono ?_); rintro e w' ⟨rfl, rfl⟩) | (go_at_call 75; (with_reducible refine (r08digit_any _ _).mono ?_); rintro e w' ⟨rfl, rfl⟩))
              go_roundw
              case rel => exact ⟨k + 1, by omega, by omega, by go_num, hb, Lib.hid (by rw [HK.out, hall.out, HQ.out]; simp)⟩
              case measure => simp [intOf]; omega
            | false =>
              rw [hl, hdg] at HQ
              cases h45 : ((t[k].toNat : Int) == 45) with
              | true =>
                rw [h45] at HQ
                go_wp2_with (first | (go_at_call 74; (with_reducible refine (r08letter_any _ _).mono ?_); rintro e w' ⟨rfl, rfl⟩) | (go_at_call 75; (with_reducible refine (r08digit_any _ _).mono ?_); rintro e w' ⟨rfl, rfl⟩))
                go_roundw
                case rel => exact ⟨k + 1, by omega, by omega, by go_num, hb, Lib.hid (by rw [HK.out, hall.out, HQ.out]; rfl)⟩
                case measure => simp [intOf]; omega
              | false =>
                rw [h45] at HQ
                have E := Lib.hid (named_eq t k h1k hk HL.out hall.out (fun a ha => by rw [Option.some.inj (ha.symm.trans AT.out)]; exact HQ.out))
                go_wp2_with (first | (go_at_call 74; (with_reducible refine (r08letter_any _ _).mono ?_); rintro e w' ⟨rfl, rfl⟩) | (go_at_call 75; (with_reducible refine (r08digit_any _ _).mono ?_); rintro e w' ⟨rfl, rfl⟩))
                repeat (go_quiet (fail); try go_wp2)
                go_ret2
                exact ⟨by rw [← E.out.1, ← E.out.2]; rfl, by repeat (first | exact hb | apply Bl.drewN | apply Bl.drew)⟩
        · have E := Lib.hid (named_eq t k h1k hk HL.out hall.out (fun a ha => by rw [at_none t k hlt] at ha; cases ha))
          go_wp2
          repeat (go_quiet (fail); try go_wp2)
          go_ret2
          exact ⟨by rw [← E.out.1, ← E.out.2]; rfl, by repeat (first | exact hb | apply Bl.drewN | apply Bl.drew)⟩

end Go.Proofs.YtgamlckdjfjobaaDoor
