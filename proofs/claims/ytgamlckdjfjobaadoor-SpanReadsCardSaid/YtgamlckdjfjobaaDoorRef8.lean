/- The contract of the reference's Raw. -/
import Derived.Test.YtgamlckdjfjobaaDoorRef7
namespace Go.Proofs.YtgamlckdjfjobaaDoor
open Go.RowKit

theorem begins_is (s t : ByteArray) (b : Bool) (h : Lib.hasPrefix s.data.toList t.data.toList = b) (hs : s.size ≤ 1000000) (ht : t.size ≤ 1000) (w : World) :
    Calls Tryd.prog 29 #[.string s, .string t] w fun e w' => e = .returned (.bool b) ∧ Bl w w' := by
  rw [← h]; exact begins_any s t w (by omega) (by omega)
theorem upTo_is (s b e : ByteArray) (w : World) (h : Lib.hasPrefix s.data.toList b.data.toList = true) (hs : s.size ≤ 1000000) (he : e.size ≤ 1000) (he0 : 0 < e.size) :
    Calls Tryd.prog 30 #[.string s, .string b, .string e] w fun en w' => en = .returned (.int .i64 (betweenL b.data.toList e.data.toList s.data.toList)) ∧ Bl w w' :=
  upTo_any s b e w hs (prefix_size s b h) he he0
def r12rawL (l : List UInt8) : Nat :=
  if 0 < tagL l then tagL l
  else if isComment5 l then 5
  else if isComment6 l then 6
  else if Lib.hasPrefix l [60, 33, 45, 45] then betweenL [60, 33, 45, 45] [45, 45, 62] l
  else if Lib.hasPrefix l [60, 63] then betweenL [60, 63] [63, 62] l
  else if isDecl l then betweenL [60, 33, 120] [62] l
  else if Lib.hasPrefix l [60, 33, 91, 67, 68, 65, 84, 65, 91] then betweenL [60, 33, 91, 67, 68, 65, 84, 65, 91] [93, 93, 62] l
  else 0
theorem decl_two (l : List UInt8) (h : isDecl l = true) : Lib.hasPrefix l [60, 33, 45, 45] = false ∧ Lib.hasPrefix l [60, 63] = false := by
  unfold isDecl at h
  match l, h with
  | [], h => exact absurd h (by decide)
  | [_], h => exact absurd h (by simp)
  | [_, _], h => exact absurd h (by simp)
  | a :: b :: c :: r, h =>
    simp only [Bool.and_eq_true] at h
    obtain ⟨⟨_, h2⟩, h3⟩ := h
    have hb : b = 33 := by
      have := List.isPrefixOf_iff_prefix.mp h2
      have := (List.cons_prefix_cons.mp (List.cons_prefix_cons.mp this).2).1
      exact this.symm
    have hc : (45 == c) = false := by
      rw [beq_eq_false_iff_ne]; rintro rfl
      exact absurd (show letterI ((45 : UInt8).toNat : Int) = true from h3) (by decide)
    subst hb
    constructor
    · show List.isPrefixOf [60, 33, 45, 45] (a :: 33 :: c :: r) = false
      simp only [List.isPrefixOf, hc, Bool.false_and, Bool.and_false]
    · show List.isPrefixOf [60, 63] (a :: 33 :: c :: r) = false
      simp [List.isPrefixOf]
theorem decl_is (s : ByteArray) (h : 2 < s.size) : isDecl s.data.toList = (((s[0].toNat : Int) == 60) && ((s[1].toNat : Int) == 33) && letterI (s[2].toNat : Int)) := by
  rw [eq_of_byte (b := s[0]) (c := 60) 60 rfl, eq_of_byte (b := s[1]) (c := 33) 33 rfl]
  obtain ⟨l, hl⟩ : ∃ l, s.data.toList = l := ⟨_, rfl⟩
  have hn : l.length = s.size := by rw [← hl, size_len]
  have q0 := at_some s 0 (by omega)
  have q1 := at_some s 1 (by omega)
  have q2 := at_some s 2 h
  rw [hl] at q0 q1 q2
  unfold isDecl
  rw [hl]
  match l, hn, q0, q1, q2 with
  | [], hn, _, _, _ => simp at hn; omega
  | [_], hn, _, _, _ => simp at hn; omega
  | [_, _], hn, _, _, _ => simp at hn; omega
  | a :: b :: c :: r, hn, q0, q1, q2 =>
    have h0 : a = s[0] := Option.some.inj q0
    have h1 : b = s[1] := Option.some.inj q1
    have h2 : c = s[2] := Option.some.inj q2
    rw [← h0, ← h1, ← h2]
    show (decide (2 < (a :: b :: c :: r).length) && List.isPrefixOf [60, 33] (a :: b :: c :: r) && letterI (c.toNat : Int)) = _
    rw [decide_eq_true (show 2 < (a :: b :: c :: r).length by simp), Bool.true_and]
    simp only [List.isPrefixOf, Bool.and_true, show (60 == a) = (a == 60) from Bool.beq_comm, show (33 == b) = (b == 33) from Bool.beq_comm]
theorem r12rawL_eq (l : List UInt8) : r12rawL l = rawL l := by
  unfold r12rawL rawL
  cases h : isDecl l with
  | false => rfl
  | true => rw [(decl_two l h).1, (decl_two l h).2]; rfl

set_option maxRecDepth 100000 in
set_option maxHeartbeats 4000000 in
theorem r12raw_any (s : ByteArray) (w : World) (hs : s.size ≤ 1000000) :
    Calls Tryd.prog 15 #[.string s] w fun e w' => e = .returned (.int .i64 (rawL s.data.toList)) ∧ Bl w w' := by
  rw [← r12rawL_eq]
  have HT := fun W => r08tag_any s W hs
  obtain ⟨n, hn⟩ : ∃ n, tagL s.data.toList = n := ⟨_, rfl⟩
  have hnl : n ≤ s.size := by rw [← hn, ← size_len]; exact tagL_le _
  have R : r12rawL s.data.toList = r12rawL s.data.toList := rfl
  conv at R => rhs; unfold r12rawL; rw [hn]
  rw [hn] at HT
  clear hn
  by_cases h0 : 0 < n
  · rw [if_pos h0] at R
    have RR := Lib.hid R
    have hd : decide ((0 : Int) < (n : Int)) = true := decide_eq_true (by omega)
    clear R
    go_enter Tryd.func15, Tryd.ntmps15
    go_wp2_with (first | (go_at_call 28; (with_reducible refine (HT _).mono ?_); rintro en w1 ⟨rfl, hb1⟩))
    go_ret
    exact ⟨ret_int (by rw [RR.out]), hb1⟩
  rw [if_neg h0] at R
  have hd : decide ((0 : Int) < (n : Int)) = false := decide_eq_false (by omega)
  cases h5 : isComment5 s.data.toList with
  | true =>
    rw [h5, if_pos rfl] at R
    have B5 := fun W => begins_is s ⟨#[60, 33, 45, 45, 62]⟩ true h5 hs (by decide) W
    clear h5
    have RR := Lib.hid R
    clear R
    go_enter Tryd.func15, Tryd.ntmps15
    go_wp2_with (first | (go_at_call 28; (with_reducible refine (HT _).mono ?_); rintro en w1 ⟨rfl, hb1⟩) | (go_at_call 29; (with_reducible refine (B5 _).mono ?_); rintro en wb5 ⟨rfl, hb5⟩))
    go_ret
    exact ⟨ret_int (by rw [RR.out]; try rfl), (hb1).trans hb5⟩
  | false =>
    rw [h5, if_neg (by decide)] at R
    have B5 := fun W => begins_is s ⟨#[60, 33, 45, 45, 62]⟩ false h5 hs (by decide) W
    clear h5
    cases h6 : isComment6 s.data.toList with
    | true =>
      rw [h6, if_pos rfl] at R
      have B6 := fun W => begins_is s ⟨#[60, 33, 45, 45, 45, 62]⟩ true h6 hs (by decide) W
      clear h6
      have RR := Lib.hid R
      clear R
      go_enter Tryd.func15, Tryd.ntmps15
      go_wp2_with (first | (go_at_call 28; (with_reducible refine (HT _).mono ?_); rintro en w1 ⟨rfl, hb1⟩) | (go_at_call 29; (with_reducible refine (B5 _).mono ?_); rintro en wb5 ⟨rfl, hb5⟩) | (go_at_call 29; (with_reducible refine (B6 _).mono ?_); rintro en wb6 ⟨rfl, hb6⟩))
      go_ret
      exact ⟨ret_int (by rw [RR.out]; try rfl), ((hb1).trans hb5).trans hb6⟩
    | false =>
      rw [h6, if_neg (by decide)] at R
      have B6 := fun W => begins_is s ⟨#[60, 33, 45, 45, 45, 62]⟩ false h6 hs (by decide) W
      clear h6
      cases hc : Lib.hasPrefix s.data.toList [60, 33, 45, 45] with
      | true =>
        rw [hc, if_pos rfl] at R
        have Bc := fun W => begins_is s ⟨#[60, 33, 45, 45]⟩ true hc hs (by decide) W
        have U := fun W => upTo_is s ⟨#[60, 33, 45, 45]⟩ ⟨#[45, 45, 62]⟩ W hc hs (by decide) (by decide)
        clear hc
        have RR := Lib.hid R
        clear R
        go_enter Tryd.func15, Tryd.ntmps15
        go_wp2_with (first | (go_at_call 28; (with_reducible refine (HT _).mono ?_); rintro en w1 ⟨rfl, hb1⟩) | (go_at_call 29; (with_reducible refine (B5 _).mono ?_); rintro en wb5 ⟨rfl, hb5⟩) | (go_at_call 29; (with_reducible refine (B6 _).mono ?_); rintro en wb6 ⟨rfl, hb6⟩) | (go_at_call 29; (with_reducible refine (Bc _).mono ?_); rintro en wbc ⟨rfl, hbc⟩) | (go_at_call 30; (with_reducible refine (U _).mono ?_); rintro en wu ⟨rfl, hbu⟩))
        go_ret
        exact ⟨ret_int (by rw [RR.out]; try rfl), ((((hb1).trans hb5).trans hb6).trans hbc).trans hbu⟩
      | false =>
        rw [hc, if_neg (by decide)] at R
        have Bc := fun W => begins_is s ⟨#[60, 33, 45, 45]⟩ false hc hs (by decide) W
        clear hc
        cases hq : Lib.hasPrefix s.data.toList [60, 63] with
        | true =>
          rw [hq, if_pos rfl] at R
          have Bq := fun W => begins_is s ⟨#[60, 63]⟩ true hq hs (by decide) W
          have U := fun W => upTo_is s ⟨#[60, 63]⟩ ⟨#[63, 62]⟩ W hq hs (by decide) (by decide)
          clear hq
          have RR := Lib.hid R
          clear R
          go_enter Tryd.func15, Tryd.ntmps15
          go_wp2_with (first | (go_at_call 28; (with_reducible refine (HT _).mono ?_); rintro en w1 ⟨rfl, hb1⟩) | (go_at_call 29; (with_reducible refine (B5 _).mono ?_); rintro en wb5 ⟨rfl, hb5⟩) | (go_at_call 29; (with_reducible refine (B6 _).mono ?_); rintro en wb6 ⟨rfl, hb6⟩) | (go_at_call 29; (with_reducible refine (Bc _).mono ?_); rintro en wbc ⟨rfl, hbc⟩) | (go_at_call 29; (with_reducible refine (Bq _).mono ?_); rintro en wbq ⟨rfl, hbq⟩) | (go_at_call 30; (with_reducible refine (U _).mono ?_); rintro en wu ⟨rfl, hbu⟩))
          go_ret
          exact ⟨ret_int (by rw [RR.out]; try rfl), (((((hb1).trans hb5).trans hb6).trans hbc).trans hbq).trans hbu⟩
        | false =>
          rw [hq, if_neg (by decide)] at R
          have Bq := fun W => begins_is s ⟨#[60, 63]⟩ false hq hs (by decide) W
          clear hq
          have HN : isDecl s.data.toList = false → r12rawL s.data.toList = if Lib.hasPrefix s.data.toList [60, 33, 91, 67, 68, 65, 84, 65, 91] then betweenL [60, 33, 91, 67, 68, 65, 84, 65, 91] [93, 93, 62] s.data.toList else 0 := fun h => by rw [R, h]; rfl
          have HY : isDecl s.data.toList = true → r12rawL s.data.toList = betweenL [60, 33, 120] [62] s.data.toList := fun h => by rw [R, h]; rfl
          clear R
          rcases Nat.lt_or_ge 2 s.size with h2 | h2
          · have D := decl_is s h2
            have d2 : decide (2 < s.size) = true := decide_eq_true h2
            cases e0 : ((s[0].toNat : Int) == 60) with
            | false =>
              have R := HN (by rw [D, e0]; rfl)
              clear D
              cases hz : Lib.hasPrefix s.data.toList [60, 33, 91, 67, 68, 65, 84, 65, 91] with
              | true =>
                rw [hz, if_pos rfl] at R
                have Bz := fun W => begins_is s ⟨#[60, 33, 91, 67, 68, 65, 84, 65, 91]⟩ true hz hs (by decide) W
                have U := fun W => upTo_is s ⟨#[60, 33, 91, 67, 68, 65, 84, 65, 91]⟩ ⟨#[93, 93, 62]⟩ W hz hs (by decide) (by decide)
                clear hz HN HY
                have RR := Lib.hid R
                clear R
                go_enter Tryd.func15, Tryd.ntmps15
                go_wp2_with (first | (go_at_call 28; (with_reducible refine (HT _).mono ?_); rintro en w1 ⟨rfl, hb1⟩) | (go_at_call 29; (with_reducible refine (B5 _).mono ?_); rintro en wb5 ⟨rfl, hb5⟩) | (go_at_call 29; (with_reducible refine (B6 _).mono ?_); rintro en wb6 ⟨rfl, hb6⟩) | (go_at_call 29; (with_reducible refine (Bc _).mono ?_); rintro en wbc ⟨rfl, hbc⟩) | (go_at_call 29; (with_reducible refine (Bq _).mono ?_); rintro en wbq ⟨rfl, hbq⟩) | (go_at_call 29; (with_reducible refine (Bz _).mono ?_); rintro en wbz ⟨rfl, hbz⟩) | (go_at_call 30; (with_reducible refine (U _).mono ?_); rintro en wu ⟨rfl, hbu⟩))
                go_ret
                exact ⟨ret_int (by rw [RR.out]; try rfl), ((((((hb1).trans hb5).trans hb6).trans hbc).trans hbq).trans hbz).trans hbu⟩
              | false =>
                rw [hz, if_neg (by decide)] at R
                have Bz := fun W => begins_is s ⟨#[60, 33, 91, 67, 68, 65, 84, 65, 91]⟩ false hz hs (by decide) W
                clear hz HN HY
                have RR := Lib.hid R
                clear R
                go_enter Tryd.func15, Tryd.ntmps15
                go_wp2_with (first | (go_at_call 28; (with_reducible refine (HT _).mono ?_); rintro en w1 ⟨rfl, hb1⟩) | (go_at_call 29; (with_reducible refine (B5 _).mono ?_); rintro en wb5 ⟨rfl, hb5⟩) | (go_at_call 29; (with_reducible refine (B6 _).mono ?_); rintro en wb6 ⟨rfl, hb6⟩) | (go_at_call 29; (with_reducible refine (Bc _).mono ?_); rintro en wbc ⟨rfl, hbc⟩) | (go_at_call 29; (with_reducible refine (Bq _).mono ?_); rintro en wbq ⟨rfl, hbq⟩) | (go_at_call 29; (with_reducible refine (Bz _).mono ?_); rintro en wbz ⟨rfl, hbz⟩))
                go_ret
                exact ⟨ret_int (by rw [RR.out]; try rfl), (((((hb1).trans hb5).trans hb6).trans hbc).trans hbq).trans hbz⟩
            | true =>
              cases e1 : ((s[1].toNat : Int) == 33) with
              | false =>
                have R := HN (by rw [D, e0, e1]; rfl)
                clear D
                cases hz : Lib.hasPrefix s.data.toList [60, 33, 91, 67, 68, 65, 84, 65, 91] with
                | true =>
                  rw [hz, if_pos rfl] at R
                  have Bz := fun W => begins_is s ⟨#[60, 33, 91, 67, 68, 65, 84, 65, 91]⟩ true hz hs (by decide) W
                  have U := fun W => upTo_is s ⟨#[60, 33, 91, 67, 68, 65, 84, 65, 91]⟩ ⟨#[93, 93, 62]⟩ W hz hs (by decide) (by decide)
                  clear hz HN HY
                  have RR := Lib.hid R
                  clear R
                  go_enter Tryd.func15, Tryd.ntmps15
                  go_wp2_with (first | (go_at_call 28; (with_reducible refine (HT _).mono ?_); rintro en w1 ⟨rfl, hb1⟩) | (go_at_call 29; (with_reducible refine (B5 _).mono ?_); rintro en wb5 ⟨rfl, hb5⟩) | (go_at_call 29; (with_reducible refine (B6 _).mono ?_); rintro en wb6 ⟨rfl, hb6⟩) | (go_at_call 29; (with_reducible refine (Bc _).mono ?_); rintro en wbc ⟨rfl, hbc⟩) | (go_at_call 29; (with_reducible refine (Bq _).mono ?_); rintro en wbq ⟨rfl, hbq⟩) | (go_at_call 29; (with_reducible refine (Bz _).mono ?_); rintro en wbz ⟨rfl, hbz⟩) | (go_at_call 30; (with_reducible refine (U _).mono ?_); rintro en wu ⟨rfl, hbu⟩))
                  go_ret
                  exact ⟨ret_int (by rw [RR.out]; try rfl), ((((((hb1).trans hb5).trans hb6).trans hbc).trans hbq).trans hbz).trans hbu⟩
                | false =>
                  rw [hz, if_neg (by decide)] at R
                  have Bz := fun W => begins_is s ⟨#[60, 33, 91, 67, 68, 65, 84, 65, 91]⟩ false hz hs (by decide) W
                  clear hz HN HY
                  have RR := Lib.hid R
                  clear R
                  go_enter Tryd.func15, Tryd.ntmps15
                  go_wp2_with (first | (go_at_call 28; (with_reducible refine (HT _).mono ?_); rintro en w1 ⟨rfl, hb1⟩) | (go_at_call 29; (with_reducible refine (B5 _).mono ?_); rintro en wb5 ⟨rfl, hb5⟩) | (go_at_call 29; (with_reducible refine (B6 _).mono ?_); rintro en wb6 ⟨rfl, hb6⟩) | (go_at_call 29; (with_reducible refine (Bc _).mono ?_); rintro en wbc ⟨rfl, hbc⟩) | (go_at_call 29; (with_reducible refine (Bq _).mono ?_); rintro en wbq ⟨rfl, hbq⟩) | (go_at_call 29; (with_reducible refine (Bz _).mono ?_); rintro en wbz ⟨rfl, hbz⟩))
                  go_ret
                  exact ⟨ret_int (by rw [RR.out]; try rfl), (((((hb1).trans hb5).trans hb6).trans hbc).trans hbq).trans hbz⟩
              | true =>
                cases e2 : letterI (s[2].toNat : Int) with
                | false =>
                  have R := HN (by rw [D, e0, e1, e2]; rfl)
                  clear D
                  cases hz : Lib.hasPrefix s.data.toList [60, 33, 91, 67, 68, 65, 84, 65, 91] with
                  | true =>
                    rw [hz, if_pos rfl] at R
                    have Bz := fun W => begins_is s ⟨#[60, 33, 91, 67, 68, 65, 84, 65, 91]⟩ true hz hs (by decide) W
                    have U := fun W => upTo_is s ⟨#[60, 33, 91, 67, 68, 65, 84, 65, 91]⟩ ⟨#[93, 93, 62]⟩ W hz hs (by decide) (by decide)
                    clear hz HN HY
                    have RR := Lib.hid R
                    clear R
                    go_enter Tryd.func15, Tryd.ntmps15
                    go_wp2_with (first | (go_at_call 28; (with_reducible refine (HT _).mono ?_); rintro en w1 ⟨rfl, hb1⟩) | (go_at_call 29; (with_reducible refine (B5 _).mono ?_); rintro en wb5 ⟨rfl, hb5⟩) | (go_at_call 29; (with_reducible refine (B6 _).mono ?_); rintro en wb6 ⟨rfl, hb6⟩) | (go_at_call 29; (with_reducible refine (Bc _).mono ?_); rintro en wbc ⟨rfl, hbc⟩) | (go_at_call 29; (with_reducible refine (Bq _).mono ?_); rintro en wbq ⟨rfl, hbq⟩) | (go_at_call 29; (with_reducible refine (Bz _).mono ?_); rintro en wbz ⟨rfl, hbz⟩) | (go_at_call 31; (with_reducible refine (r12letter_any _ _).mono ?_); rintro e w' ⟨rfl, rfl⟩) | (go_at_call 30; (with_reducible refine (U _).mono ?_); rintro en wu ⟨rfl, hbu⟩))
                    go_ret
                    exact ⟨ret_int (by rw [RR.out]; try rfl), ((((((hb1).trans hb5).trans hb6).trans hbc).trans hbq).trans hbz).trans hbu⟩
                  | false =>
                    rw [hz, if_neg (by decide)] at R
                    have Bz := fun W => begins_is s ⟨#[60, 33, 91, 67, 68, 65, 84, 65, 91]⟩ false hz hs (by decide) W
                    clear hz HN HY
                    have RR := Lib.hid R
                    clear R
                    go_enter Tryd.func15, Tryd.ntmps15
                    go_wp2_with (first | (go_at_call 28; (with_reducible refine (HT _).mono ?_); rintro en w1 ⟨rfl, hb1⟩) | (go_at_call 29; (with_reducible refine (B5 _).mono ?_); rintro en wb5 ⟨rfl, hb5⟩) | (go_at_call 29; (with_reducible refine (B6 _).mono ?_); rintro en wb6 ⟨rfl, hb6⟩) | (go_at_call 29; (with_reducible refine (Bc _).mono ?_); rintro en wbc ⟨rfl, hbc⟩) | (go_at_call 29; (with_reducible refine (Bq _).mono ?_); rintro en wbq ⟨rfl, hbq⟩) | (go_at_call 29; (with_reducible refine (Bz _).mono ?_); rintro en wbz ⟨rfl, hbz⟩) | (go_at_call 31; (with_reducible refine (r12letter_any _ _).mono ?_); rintro e w' ⟨rfl, rfl⟩))
                    go_ret
                    exact ⟨ret_int (by rw [RR.out]; try rfl), (((((hb1).trans hb5).trans hb6).trans hbc).trans hbq).trans hbz⟩
                | true =>
                  have R := HY (by rw [D, e0, e1, e2]; rfl)
                  have U := fun W => upTo_any s ⟨#[60, 33, 120]⟩ ⟨#[62]⟩ W hs h2 (by decide) (by decide)
                  clear D HN HY
                  have RR := Lib.hid R
                  clear R
                  go_enter Tryd.func15, Tryd.ntmps15
                  go_wp2_with (first | (go_at_call 28; (with_reducible refine (HT _).mono ?_); rintro en w1 ⟨rfl, hb1⟩) | (go_at_call 29; (with_reducible refine (B5 _).mono ?_); rintro en wb5 ⟨rfl, hb5⟩) | (go_at_call 29; (with_reducible refine (B6 _).mono ?_); rintro en wb6 ⟨rfl, hb6⟩) | (go_at_call 29; (with_reducible refine (Bc _).mono ?_); rintro en wbc ⟨rfl, hbc⟩) | (go_at_call 29; (with_reducible refine (Bq _).mono ?_); rintro en wbq ⟨rfl, hbq⟩) | (go_at_call 31; (with_reducible refine (r12letter_any _ _).mono ?_); rintro e w' ⟨rfl, rfl⟩) | (go_at_call 30; (with_reducible refine (U _).mono ?_); rintro en wu ⟨rfl, hbu⟩))
                  go_ret
                  exact ⟨ret_int (by rw [RR.out]; try rfl), (((((hb1).trans hb5).trans hb6).trans hbc).trans hbq).trans hbu⟩
          · have d2 : decide (2 < s.size) = false := decide_eq_false (by omega)
            have R := HN (by unfold isDecl; rw [size_len, d2]; rfl)
            cases hz : Lib.hasPrefix s.data.toList [60, 33, 91, 67, 68, 65, 84, 65, 91] with
            | true =>
              rw [hz, if_pos rfl] at R
              have Bz := fun W => begins_is s ⟨#[60, 33, 91, 67, 68, 65, 84, 65, 91]⟩ true hz hs (by decide) W
              have U := fun W => upTo_is s ⟨#[60, 33, 91, 67, 68, 65, 84, 65, 91]⟩ ⟨#[93, 93, 62]⟩ W hz hs (by decide) (by decide)
              clear hz HN HY
              have RR := Lib.hid R
              clear R
              go_enter Tryd.func15, Tryd.ntmps15
              go_wp2_with (first | (go_at_call 28; (with_reducible refine (HT _).mono ?_); rintro en w1 ⟨rfl, hb1⟩) | (go_at_call 29; (with_reducible refine (B5 _).mono ?_); rintro en wb5 ⟨rfl, hb5⟩) | (go_at_call 29; (with_reducible refine (B6 _).mono ?_); rintro en wb6 ⟨rfl, hb6⟩) | (go_at_call 29; (with_reducible refine (Bc _).mono ?_); rintro en wbc ⟨rfl, hbc⟩) | (go_at_call 29; (with_reducible refine (Bq _).mono ?_); rintro en wbq ⟨rfl, hbq⟩) | (go_at_call 29; (with_reducible refine (Bz _).mono ?_); rintro en wbz ⟨rfl, hbz⟩) | (go_at_call 30; (with_reducible refine (U _).mono ?_); rintro en wu ⟨rfl, hbu⟩))
              go_ret
              exact ⟨ret_int (by rw [RR.out]; try rfl), ((((((hb1).trans hb5).trans hb6).trans hbc).trans hbq).trans hbz).trans hbu⟩
            | false =>
              rw [hz, if_neg (by decide)] at R
              have Bz := fun W => begins_is s ⟨#[60, 33, 91, 67, 68, 65, 84, 65, 91]⟩ false hz hs (by decide) W
              clear hz HN HY
              have RR := Lib.hid R
              clear R
              go_enter Tryd.func15, Tryd.ntmps15
              go_wp2_with (first | (go_at_call 28; (with_reducible refine (HT _).mono ?_); rintro en w1 ⟨rfl, hb1⟩) | (go_at_call 29; (with_reducible refine (B5 _).mono ?_); rintro en wb5 ⟨rfl, hb5⟩) | (go_at_call 29; (with_reducible refine (B6 _).mono ?_); rintro en wb6 ⟨rfl, hb6⟩) | (go_at_call 29; (with_reducible refine (Bc _).mono ?_); rintro en wbc ⟨rfl, hbc⟩) | (go_at_call 29; (with_reducible refine (Bq _).mono ?_); rintro en wbq ⟨rfl, hbq⟩) | (go_at_call 29; (with_reducible refine (Bz _).mono ?_); rintro en wbz ⟨rfl, hbz⟩))
              go_ret
              exact ⟨ret_int (by rw [RR.out]; try rfl), (((((hb1).trans hb5).trans hb6).trans hbc).trans hbq).trans hbz⟩

end Go.Proofs.YtgamlckdjfjobaaDoor
