/- The contracts of span.between and span.Raw. -/
import Derived.Test.YtgamlckdjfjobaaDoorTag
namespace Go.Proofs.YtgamlckdjfjobaaDoor
open Go.RowKit

def betweenL (b e l : List UInt8) : Nat :=
  if 0 ≤ Lib.index (l.drop b.length) e then b.length + (Lib.index (l.drop b.length) e).toNat + e.length else 0

theorem index_le_len (l e : List UInt8) : Lib.index l e ≤ l.length := Lib.index_le l e

set_option maxHeartbeats 400000 in
theorem between_any (s b e : ByteArray) (w : World) (hm : MaxAt w) (hs : s.size ≤ 1000000) (hb : b.size ≤ s.size) (he : e.size ≤ 1000) :
    Calls Tryd.prog 27 #[.string s, .string b, .string e] w fun en w' => en = .returned (.int .i64 (betweenL b.data.toList e.data.toList s.data.toList)) ∧ Bl w w' := by
  obtain ⟨m, hmc⟩ := hm.out
  obtain ⟨T, hT⟩ : ∃ T, s.extract b.size s.size = T := ⟨_, rfl⟩
  have hTd : T.data.toList = s.data.toList.drop b.size := by rw [← hT]; exact Lib.extract_to_end s _
  have hTs : T.size = s.size - b.size := by rw [← size_len, hTd, List.length_drop, size_len]
  obtain ⟨k, hk⟩ : ∃ k, Lib.index T.data.toList e.data.toList = k := ⟨_, rfl⟩
  have hk1 := Lib.index_ge T.data.toList e.data.toList
  have hk2 := Lib.index_le T.data.toList e.data.toList
  have HI : ∀ W, W.cell? ⟨0, 0, none⟩ = some (.int .i64 m) → Calls Tryd.prog 50 #[.string T, .string e] W fun en w' => en = .returned (.int .i64 k) ∧ W = w' := by
    intro W hW
    refine (Tryd.strings_Index T e m W (by omega) hW).mono ?_
    rintro en w' ⟨rfl, rfl⟩
    exact ⟨by rw [hk], rfl⟩
  have R := Lib.hid (show betweenL b.data.toList e.data.toList s.data.toList = if 0 ≤ k then b.size + k.toNat + e.size else 0 by
    unfold betweenL; rw [size_len, ← hTd, hk, size_len])
  rw [size_len] at hk2
  rw [hk] at hk1 hk2
  clear hTd hk
  have Z := Lib.hid hTs
  have hTz : T.size ≤ 1000000 := by omega
  clear hTs
  by_cases h0 : 0 ≤ k
  · have hd : decide (k < 0) = false := decide_eq_false (by omega)
    go_enter Tryd.func27, Tryd.ntmps27
    go_wp2_with (first | (go_at_call 50; (with_reducible refine (HI _ hmc).mono ?_); rintro en w' ⟨rfl, rfl⟩))
    go_ret
    exact ⟨ret_int (by rw [R.out, if_pos h0]; omega), Bl.refl _⟩
  · have hd : decide (k < 0) = true := decide_eq_true (by omega)
    go_enter Tryd.func27, Tryd.ntmps27
    go_wp2_with (first | (go_at_call 50; (with_reducible refine (HI _ hmc).mono ?_); rintro en w' ⟨rfl, rfl⟩))
    go_ret
    exact ⟨ret_int (by rw [R.out, if_neg (by omega)]; rfl), Bl.refl _⟩

def isComment5 (l : List UInt8) : Bool := Lib.hasPrefix l [60, 33, 45, 45, 62]
def isComment6 (l : List UInt8) : Bool := Lib.hasPrefix l [60, 33, 45, 45, 45, 62]
def isDecl (l : List UInt8) : Bool := decide (2 < l.length) && Lib.hasPrefix l [60, 33] && letterI (((l.drop 2).headD 0).toNat : Int)
/-- How long the HTML is with which a text begins. -/
def rawL (l : List UInt8) : Nat :=
  if 0 < tagL l then tagL l
  else if isComment5 l then 5
  else if isComment6 l then 6
  else if isDecl l then betweenL [60, 33, 120] [62] l
  else if Lib.hasPrefix l [60, 33, 45, 45] then betweenL [60, 33, 45, 45] [45, 45, 62] l
  else if Lib.hasPrefix l [60, 63] then betweenL [60, 63] [63, 62] l
  else if Lib.hasPrefix l [60, 33, 91, 67, 68, 65, 84, 65, 91] then betweenL [60, 33, 91, 67, 68, 65, 84, 65, 91] [93, 93, 62] l
  else 0

theorem tagL_le (l : List UInt8) : tagL l ≤ l.length := by
  unfold tagL; split <;> omega

theorem prefix_size (s p : ByteArray) (h : Lib.hasPrefix s.data.toList p.data.toList = true) : p.size ≤ s.size := by
  rw [← size_len s, ← size_len p]
  exact (List.isPrefixOf_iff_prefix.mp h).length_le
structure NoC (s : ByteArray) (k : Nat) : Prop where
  a : 1 ≤ k → isComment5 s.data.toList = false
  b : 2 ≤ k → isComment6 s.data.toList = false

structure NoD (s : ByteArray) (k : Nat) : Prop where
  a : 1 ≤ k → Lib.hasPrefix s.data.toList [60, 33, 45, 45] = false
  b : 2 ≤ k → Lib.hasPrefix s.data.toList [60, 63] = false
  c : 3 ≤ k → Lib.hasPrefix s.data.toList [60, 33, 91, 67, 68, 65, 84, 65, 91] = false

set_option maxRecDepth 100000 in
set_option maxHeartbeats 2000000 in
theorem raw_any (s : ByteArray) (w : World) (hm : MaxAt w) (hs : s.size ≤ 1000000) :
    Calls Tryd.prog 14 #[.string s] w fun e w' => e = .returned (.int .i64 (rawL s.data.toList)) ∧ Bl w w' := by
  have HT := tag_any s w hs
  obtain ⟨n, hn⟩ : ∃ n, tagL s.data.toList = n := ⟨_, rfl⟩
  have hnl : n ≤ s.size := by rw [← hn, ← size_len]; exact tagL_le _
  have R : rawL s.data.toList = rawL s.data.toList := rfl
  conv at R => rhs; unfold rawL; rw [hn]
  rw [hn] at HT
  clear hn
  by_cases h0 : 0 < n
  · rw [if_pos h0] at R
    have RR := Lib.hid R
    have hd : decide ((0 : Int) < (n : Int)) = true := decide_eq_true (by omega)
    clear R
    go_enter Tryd.func14, Tryd.ntmps14
    go_wp2_with (first | (go_at_call 25; (with_reducible refine HT.mono ?_); rintro en w1 ⟨rfl, hb1⟩))
    go_ret
    exact ⟨ret_int (by rw [RR.out]), hb1⟩
  · rw [if_neg h0] at R
    have hd : decide ((0 : Int) < (n : Int)) = false := decide_eq_false (by omega)
    have RR := Lib.hid R
    clear R
    go_enter Tryd.func14, Tryd.ntmps14
    go_wp2_with (first | (go_at_call 25; (with_reducible refine HT.mono ?_); rintro en w1 ⟨rfl, hb1⟩))
    have hrow0 : (w1.alloc (.cells #[.string ⟨#[60, 33, 45, 45, 62]⟩, .string ⟨#[60, 33, 45, 45, 45, 62]⟩] 9)).heap[w1.heap.size]? = some (.cells #[.string ⟨#[60, 33, 45, 45, 62]⟩, .string ⟨#[60, 33, 45, 45, 45, 62]⟩] 9) := alloc_new _ _
    go_loopw [15] (fun i wr => ∃ k : Nat, k ≤ 2 ∧ i = .int .i64 k ∧ Bl w wr ∧ wr.heap[w1.heap.size]? = some (.cells #[.string ⟨#[60, 33, 45, 45, 62]⟩, .string ⟨#[60, 33, 45, 45, 45, 62]⟩] 9) ∧ NoC s k) (fun i _ => 2 - (intOf i).toNat)
    case atStart => exact ⟨0, by omega, rfl, hb1.alloc _, hrow0, ⟨by omega, by omega⟩⟩
    case round =>
      clear hrow0
      obtain ⟨k, hk, rfl, hb, hrow, hno⟩ := hrel
      have c0 : wr.cell? ⟨w1.heap.size, 0, none⟩ = some (.string ⟨#[60, 33, 45, 45, 62]⟩) := cell_marked hrow
      have c1 : wr.cell? ⟨w1.heap.size, 1, none⟩ = some (.string ⟨#[60, 33, 45, 45, 45, 62]⟩) := cell_marked hrow
      by_cases k0 : k = 0
      · subst k0
        cases h5 : isComment5 s.data.toList with
        | true =>
          have HP := fun W => hasPrefix_is s ⟨#[60, 33, 45, 45, 62]⟩ true h5 W
          have R5 := Lib.hid (RR.out.trans (if_pos h5))
          clear h5 hno
          go_wp2_with (first | (go_at_call 18; (with_reducible refine (HP _).mono ?_); rintro e w' ⟨rfl, rfl⟩))
          go_ret
          exact ⟨ret_int (by rw [R5.out]; rfl), hb⟩
        | false =>
          have HP := fun W => hasPrefix_is s ⟨#[60, 33, 45, 45, 62]⟩ false h5 W
          have H5 := Lib.hid h5
          clear h5
          go_wp2_with (first | (go_at_call 18; (with_reducible refine (HP _).mono ?_); rintro e w' ⟨rfl, rfl⟩))
          go_roundw
          case rel => exact ⟨1, by omega, rfl, hb, hrow, ⟨fun _ => H5.out, by omega⟩⟩
          case measure => simp [intOf]
      · by_cases k1 : k = 1
        · subst k1
          have RR5 := RR.out.trans (if_neg (by rw [hno.a (by omega)]; decide))
          cases h6 : isComment6 s.data.toList with
          | true =>
            have HP := fun W => hasPrefix_is s ⟨#[60, 33, 45, 45, 45, 62]⟩ true h6 W
            have R5 := Lib.hid (RR5.trans (if_pos h6))
            clear h6 hno RR5
            go_wp2_with (first | (go_at_call 18; (with_reducible refine (HP _).mono ?_); rintro e w' ⟨rfl, rfl⟩))
            go_ret
            exact ⟨ret_int (by rw [R5.out]; rfl), hb⟩
          | false =>
            have HP := fun W => hasPrefix_is s ⟨#[60, 33, 45, 45, 45, 62]⟩ false h6 W
            have H6 := Lib.hid h6
            have H5 := Lib.hid (hno.a (by omega))
            clear h6 RR5
            go_wp2_with (first | (go_at_call 18; (with_reducible refine (HP _).mono ?_); rintro e w' ⟨rfl, rfl⟩))
            go_roundw
            case rel => exact ⟨2, by omega, rfl, hb, hrow, ⟨fun _ => H5.out, fun _ => H6.out⟩⟩
            case measure => simp [intOf]
        · obtain rfl : k = 2 := by omega
          have RS := (RR.out.trans (if_neg (by rw [hno.a (by omega)]; decide))).trans (if_neg (by rw [hno.b (by omega)]; decide))
          clear hno c0 c1 hrow RR
          by_cases h2 : 2 < s.size
          · have d2 : decide ((2 : Int) < (s.size : Int)) = true := decide_eq_true (by omega)
            have b0 : (0 : Int) ≤ (s[2].toNat : Int) := by omega
            have b1 : (s[2].toNat : Int) < 256 := by have := s[2].toNat_lt; omega
            have hd2 : (s.data.toList.drop 2).headD 0 = s[2] := by
              rw [List.headD_eq_head?_getD, List.head?_drop, at_some s 2 h2]; rfl
            have hdec : isDecl s.data.toList = (Lib.hasPrefix s.data.toList [60, 33] && letterI (s[2].toNat : Int)) := by
              unfold isDecl; rw [size_len, decide_eq_true h2, hd2]; rfl
            cases hpd : Lib.hasPrefix s.data.toList [60, 33] with
            | true =>
              have HPD := fun W => hasPrefix_is s ⟨#[60, 33]⟩ true hpd W
              cases hlt : letterI (s[2].toNat : Int) with
              | true =>
                have R5 := Lib.hid (RS.trans (if_pos (by rw [hdec, hpd, hlt]; rfl)))
                have HB := fun W hW => between_any s ⟨#[60, 33, 120]⟩ ⟨#[62]⟩ W hW hs (by show (3 : Nat) ≤ s.size; omega) (by decide)
                rw [show betweenL (⟨#[60, 33, 120]⟩ : ByteArray).data.toList (⟨#[62]⟩ : ByteArray).data.toList s.data.toList = rawL s.data.toList from R5.out.symm] at HB
                clear hdec hpd RS hd2
                go_wp2_with (first | (go_at_call 18; (with_reducible refine (HPD _).mono ?_); rintro e w' ⟨rfl, rfl⟩) | (go_at_call 26; (with_reducible refine (letter_any _ b0 b1 _).mono ?_); rintro e w' ⟨rfl, rfl⟩) | (go_at_call 27; (refine (HB _ (hm.bl hb)).mono ?_); rintro e w' ⟨rfl, hb9⟩))
                go_ret
                exact ⟨rfl, hb.trans hb9⟩
              | false =>
                have RF := Lib.hid (RS.trans (if_neg (by rw [hdec, hpd, hlt]; decide)))
                clear RS hdec hpd hd2
                go_wp2_with (first | (go_at_call 18; (with_reducible refine (HPD _).mono ?_); rintro e w' ⟨rfl, rfl⟩) | (go_at_call 26; (with_reducible refine (letter_any _ b0 b1 _).mono ?_); rintro e w' ⟨rfl, rfl⟩))
                clear hlt b0 b1 HPD
                have hrow0 : (wr.alloc (.cells #[.string ⟨#[60, 33, 45, 45]⟩, .string ⟨#[45, 45, 62]⟩, .string ⟨#[60, 63]⟩, .string ⟨#[63, 62]⟩, .string ⟨#[60, 33, 91, 67, 68, 65, 84, 65, 91]⟩, .string ⟨#[93, 93, 62]⟩] 37)).heap[wr.heap.size]? = some (.cells #[.string ⟨#[60, 33, 45, 45]⟩, .string ⟨#[45, 45, 62]⟩, .string ⟨#[60, 63]⟩, .string ⟨#[63, 62]⟩, .string ⟨#[60, 33, 91, 67, 68, 65, 84, 65, 91]⟩, .string ⟨#[93, 93, 62]⟩] 37) := alloc_new _ _
                have hbr := hb.alloc (.cells #[.string ⟨#[60, 33, 45, 45]⟩, .string ⟨#[45, 45, 62]⟩, .string ⟨#[60, 63]⟩, .string ⟨#[63, 62]⟩, .string ⟨#[60, 33, 91, 67, 68, 65, 84, 65, 91]⟩, .string ⟨#[93, 93, 62]⟩] 37)
                obtain ⟨wo, rfl⟩ : ∃ wo : World, wo = wr := ⟨_, rfl⟩
                go_loopw [44] (fun i wr => ∃ k : Nat, k ≤ 3 ∧ i = .int .i64 k ∧ Bl w wr ∧ wr.heap[wo.heap.size]? = some (.cells #[.string ⟨#[60, 33, 45, 45]⟩, .string ⟨#[45, 45, 62]⟩, .string ⟨#[60, 63]⟩, .string ⟨#[63, 62]⟩, .string ⟨#[60, 33, 91, 67, 68, 65, 84, 65, 91]⟩, .string ⟨#[93, 93, 62]⟩] 37) ∧ NoD s k) (fun i _ => 3 - (intOf i).toNat)
                case atStart => exact ⟨0, by omega, rfl, hbr, hrow0, ⟨by omega, by omega, by omega⟩⟩
                case round =>
                  clear hrow0 hbr
                  obtain ⟨k, hk, rfl, hbx, hrow, hno⟩ := hrel
                  have c0 : wr.cell? ⟨wo.heap.size, 0, none⟩ = some (.string ⟨#[60, 33, 45, 45]⟩) := cell_marked hrow
                  have c1 : wr.cell? ⟨wo.heap.size, 1, none⟩ = some (.string ⟨#[45, 45, 62]⟩) := cell_marked hrow
                  have c2 : wr.cell? ⟨wo.heap.size, 2, none⟩ = some (.string ⟨#[60, 63]⟩) := cell_marked hrow
                  have c3 : wr.cell? ⟨wo.heap.size, 3, none⟩ = some (.string ⟨#[63, 62]⟩) := cell_marked hrow
                  have c4 : wr.cell? ⟨wo.heap.size, 4, none⟩ = some (.string ⟨#[60, 33, 91, 67, 68, 65, 84, 65, 91]⟩) := cell_marked hrow
                  have c5 : wr.cell? ⟨wo.heap.size, 5, none⟩ = some (.string ⟨#[93, 93, 62]⟩) := cell_marked hrow
                  rcases (show k = 0 ∨ k = 1 ∨ k = 2 ∨ k = 3 by omega) with rfl | rfl | rfl | rfl
                  · have RK := RF.out
                    cases hpx : Lib.hasPrefix s.data.toList [60, 33, 45, 45] with
                    | true =>
                      have HP := fun W => hasPrefix_is s ⟨#[60, 33, 45, 45]⟩ true hpx W
                      have hsz : (⟨#[60, 33, 45, 45]⟩ : ByteArray).size ≤ s.size := prefix_size s _ hpx
                      have R5 := Lib.hid (RK.trans (if_pos hpx))
                      have HB := fun W hW => between_any s ⟨#[60, 33, 45, 45]⟩ ⟨#[45, 45, 62]⟩ W hW hs hsz (by decide)
                      rw [show betweenL (⟨#[60, 33, 45, 45]⟩ : ByteArray).data.toList (⟨#[45, 45, 62]⟩ : ByteArray).data.toList s.data.toList = rawL s.data.toList from R5.out.symm] at HB
                      clear hpx hno RK hsz
                      go_wp2_with (first | (go_at_call 18; (with_reducible refine (HP _).mono ?_); rintro e w' ⟨rfl, rfl⟩) | (go_at_call 27; (refine (HB _ (hm.bl (hbx.alloc _))).mono ?_); rintro e w' ⟨rfl, hb9⟩))
                      go_ret
                      exact ⟨rfl, (hbx.alloc _).trans hb9⟩
                    | false =>
                      have HP := fun W => hasPrefix_is s ⟨#[60, 33, 45, 45]⟩ false hpx W
                      have Q0 := Lib.hid hpx
                      clear hpx RK
                      go_wp2_with (first | (go_at_call 18; (with_reducible refine (HP _).mono ?_); rintro e w' ⟨rfl, rfl⟩))
                      go_roundw
                      case rel => exact ⟨1, by omega, rfl, hbx.alloc _, by rw [((Bl.refl wr).alloc _).block (Array.getElem?_eq_some_iff.1 hrow).1]; exact hrow, ⟨fun _ => Q0.out, by omega, by omega⟩⟩
                      case measure => simp [intOf]
                  · have RK := (RF.out).trans (if_neg (by rw [hno.a (by omega)]; decide))
                    cases hpx : Lib.hasPrefix s.data.toList [60, 63] with
                    | true =>
                      have HP := fun W => hasPrefix_is s ⟨#[60, 63]⟩ true hpx W
                      have hsz : (⟨#[60, 63]⟩ : ByteArray).size ≤ s.size := prefix_size s _ hpx
                      have R5 := Lib.hid (RK.trans (if_pos hpx))
                      have HB := fun W hW => between_any s ⟨#[60, 63]⟩ ⟨#[63, 62]⟩ W hW hs hsz (by decide)
                      rw [show betweenL (⟨#[60, 63]⟩ : ByteArray).data.toList (⟨#[63, 62]⟩ : ByteArray).data.toList s.data.toList = rawL s.data.toList from R5.out.symm] at HB
                      clear hpx hno RK hsz
                      go_wp2_with (first | (go_at_call 18; (with_reducible refine (HP _).mono ?_); rintro e w' ⟨rfl, rfl⟩) | (go_at_call 27; (refine (HB _ (hm.bl (hbx.alloc _))).mono ?_); rintro e w' ⟨rfl, hb9⟩))
                      go_ret
                      exact ⟨rfl, (hbx.alloc _).trans hb9⟩
                    | false =>
                      have HP := fun W => hasPrefix_is s ⟨#[60, 63]⟩ false hpx W
                      have Q0 := Lib.hid (hno.a (by omega))
                      have Q1 := Lib.hid hpx
                      clear hpx RK
                      go_wp2_with (first | (go_at_call 18; (with_reducible refine (HP _).mono ?_); rintro e w' ⟨rfl, rfl⟩))
                      go_roundw
                      case rel => exact ⟨2, by omega, rfl, hbx.alloc _, by rw [((Bl.refl wr).alloc _).block (Array.getElem?_eq_some_iff.1 hrow).1]; exact hrow, ⟨fun _ => Q0.out, fun _ => Q1.out, by omega⟩⟩
                      case measure => simp [intOf]
                  · have RK := ((RF.out).trans (if_neg (by rw [hno.a (by omega)]; decide))).trans (if_neg (by rw [hno.b (by omega)]; decide))
                    cases hpx : Lib.hasPrefix s.data.toList [60, 33, 91, 67, 68, 65, 84, 65, 91] with
                    | true =>
                      have HP := fun W => hasPrefix_is s ⟨#[60, 33, 91, 67, 68, 65, 84, 65, 91]⟩ true hpx W
                      have hsz : (⟨#[60, 33, 91, 67, 68, 65, 84, 65, 91]⟩ : ByteArray).size ≤ s.size := prefix_size s _ hpx
                      have R5 := Lib.hid (RK.trans (if_pos hpx))
                      have HB := fun W hW => between_any s ⟨#[60, 33, 91, 67, 68, 65, 84, 65, 91]⟩ ⟨#[93, 93, 62]⟩ W hW hs hsz (by decide)
                      rw [show betweenL (⟨#[60, 33, 91, 67, 68, 65, 84, 65, 91]⟩ : ByteArray).data.toList (⟨#[93, 93, 62]⟩ : ByteArray).data.toList s.data.toList = rawL s.data.toList from R5.out.symm] at HB
                      clear hpx hno RK hsz
                      go_wp2_with (first | (go_at_call 18; (with_reducible refine (HP _).mono ?_); rintro e w' ⟨rfl, rfl⟩) | (go_at_call 27; (refine (HB _ (hm.bl (hbx.alloc _))).mono ?_); rintro e w' ⟨rfl, hb9⟩))
                      go_ret
                      exact ⟨rfl, (hbx.alloc _).trans hb9⟩
                    | false =>
                      have HP := fun W => hasPrefix_is s ⟨#[60, 33, 91, 67, 68, 65, 84, 65, 91]⟩ false hpx W
                      have Q0 := Lib.hid (hno.a (by omega))
                      have Q1 := Lib.hid (hno.b (by omega))
                      have Q2 := Lib.hid hpx
                      clear hpx RK
                      go_wp2_with (first | (go_at_call 18; (with_reducible refine (HP _).mono ?_); rintro e w' ⟨rfl, rfl⟩))
                      go_roundw
                      case rel => exact ⟨3, by omega, rfl, hbx.alloc _, by rw [((Bl.refl wr).alloc _).block (Array.getElem?_eq_some_iff.1 hrow).1]; exact hrow, ⟨fun _ => Q0.out, fun _ => Q1.out, fun _ => Q2.out⟩⟩
                      case measure => simp [intOf]
                  · have R9 := Lib.hid ((((RF.out).trans (if_neg (by rw [hno.a (by omega)]; decide))).trans (if_neg (by rw [hno.b (by omega)]; decide))).trans (if_neg (by rw [hno.c (by omega)]; decide)))
                    go_wp2
                    go_ret
                    exact ⟨ret_int (by rw [R9.out]; rfl), hbx⟩
            | false =>
              have HPD := fun W => hasPrefix_is s ⟨#[60, 33]⟩ false hpd W
              have RF := Lib.hid (RS.trans (if_neg (by rw [hdec, hpd]; exact Bool.false_ne_true)))
              clear RS hdec hpd hd2
              go_wp2_with (first | (go_at_call 18; (with_reducible refine (HPD _).mono ?_); rintro e w' ⟨rfl, rfl⟩))
              clear b0 b1 HPD
              have hrow0 : (wr.alloc (.cells #[.string ⟨#[60, 33, 45, 45]⟩, .string ⟨#[45, 45, 62]⟩, .string ⟨#[60, 63]⟩, .string ⟨#[63, 62]⟩, .string ⟨#[60, 33, 91, 67, 68, 65, 84, 65, 91]⟩, .string ⟨#[93, 93, 62]⟩] 37)).heap[wr.heap.size]? = some (.cells #[.string ⟨#[60, 33, 45, 45]⟩, .string ⟨#[45, 45, 62]⟩, .string ⟨#[60, 63]⟩, .string ⟨#[63, 62]⟩, .string ⟨#[60, 33, 91, 67, 68, 65, 84, 65, 91]⟩, .string ⟨#[93, 93, 62]⟩] 37) := alloc_new _ _
              have hbr := hb.alloc (.cells #[.string ⟨#[60, 33, 45, 45]⟩, .string ⟨#[45, 45, 62]⟩, .string ⟨#[60, 63]⟩, .string ⟨#[63, 62]⟩, .string ⟨#[60, 33, 91, 67, 68, 65, 84, 65, 91]⟩, .string ⟨#[93, 93, 62]⟩] 37)
              obtain ⟨wo, rfl⟩ : ∃ wo : World, wo = wr := ⟨_, rfl⟩
              go_loopw [44] (fun i wr => ∃ k : Nat, k ≤ 3 ∧ i = .int .i64 k ∧ Bl w wr ∧ wr.heap[wo.heap.size]? = some (.cells #[.string ⟨#[60, 33, 45, 45]⟩, .string ⟨#[45, 45, 62]⟩, .string ⟨#[60, 63]⟩, .string ⟨#[63, 62]⟩, .string ⟨#[60, 33, 91, 67, 68, 65, 84, 65, 91]⟩, .string ⟨#[93, 93, 62]⟩] 37) ∧ NoD s k) (fun i _ => 3 - (intOf i).toNat)
              case atStart => exact ⟨0, by omega, rfl, hbr, hrow0, ⟨by omega, by omega, by omega⟩⟩
              case round =>
                clear hrow0 hbr
                obtain ⟨k, hk, rfl, hbx, hrow, hno⟩ := hrel
                have c0 : wr.cell? ⟨wo.heap.size, 0, none⟩ = some (.string ⟨#[60, 33, 45, 45]⟩) := cell_marked hrow
                have c1 : wr.cell? ⟨wo.heap.size, 1, none⟩ = some (.string ⟨#[45, 45, 62]⟩) := cell_marked hrow
                have c2 : wr.cell? ⟨wo.heap.size, 2, none⟩ = some (.string ⟨#[60, 63]⟩) := cell_marked hrow
                have c3 : wr.cell? ⟨wo.heap.size, 3, none⟩ = some (.string ⟨#[63, 62]⟩) := cell_marked hrow
                have c4 : wr.cell? ⟨wo.heap.size, 4, none⟩ = some (.string ⟨#[60, 33, 91, 67, 68, 65, 84, 65, 91]⟩) := cell_marked hrow
                have c5 : wr.cell? ⟨wo.heap.size, 5, none⟩ = some (.string ⟨#[93, 93, 62]⟩) := cell_marked hrow
                rcases (show k = 0 ∨ k = 1 ∨ k = 2 ∨ k = 3 by omega) with rfl | rfl | rfl | rfl
                · have RK := RF.out
                  cases hpx : Lib.hasPrefix s.data.toList [60, 33, 45, 45] with
                  | true =>
                    have HP := fun W => hasPrefix_is s ⟨#[60, 33, 45, 45]⟩ true hpx W
                    have hsz : (⟨#[60, 33, 45, 45]⟩ : ByteArray).size ≤ s.size := prefix_size s _ hpx
                    have R5 := Lib.hid (RK.trans (if_pos hpx))
                    have HB := fun W hW => between_any s ⟨#[60, 33, 45, 45]⟩ ⟨#[45, 45, 62]⟩ W hW hs hsz (by decide)
                    rw [show betweenL (⟨#[60, 33, 45, 45]⟩ : ByteArray).data.toList (⟨#[45, 45, 62]⟩ : ByteArray).data.toList s.data.toList = rawL s.data.toList from R5.out.symm] at HB
                    clear hpx hno RK hsz
                    go_wp2_with (first | (go_at_call 18; (with_reducible refine (HP _).mono ?_); rintro e w' ⟨rfl, rfl⟩) | (go_at_call 27; (refine (HB _ (hm.bl (hbx.alloc _))).mono ?_); rintro e w' ⟨rfl, hb9⟩))
                    go_ret
                    exact ⟨rfl, (hbx.alloc _).trans hb9⟩
                  | false =>
                    have HP := fun W => hasPrefix_is s ⟨#[60, 33, 45, 45]⟩ false hpx W
                    have Q0 := Lib.hid hpx
                    clear hpx RK
                    go_wp2_with (first | (go_at_call 18; (with_reducible refine (HP _).mono ?_); rintro e w' ⟨rfl, rfl⟩))
                    go_roundw
                    case rel => exact ⟨1, by omega, rfl, hbx.alloc _, by rw [((Bl.refl wr).alloc _).block (Array.getElem?_eq_some_iff.1 hrow).1]; exact hrow, ⟨fun _ => Q0.out, by omega, by omega⟩⟩
                    case measure => simp [intOf]
                · have RK := (RF.out).trans (if_neg (by rw [hno.a (by omega)]; decide))
                  cases hpx : Lib.hasPrefix s.data.toList [60, 63] with
                  | true =>
                    have HP := fun W => hasPrefix_is s ⟨#[60, 63]⟩ true hpx W
                    have hsz : (⟨#[60, 63]⟩ : ByteArray).size ≤ s.size := prefix_size s _ hpx
                    have R5 := Lib.hid (RK.trans (if_pos hpx))
                    have HB := fun W hW => between_any s ⟨#[60, 63]⟩ ⟨#[63, 62]⟩ W hW hs hsz (by decide)
                    rw [show betweenL (⟨#[60, 63]⟩ : ByteArray).data.toList (⟨#[63, 62]⟩ : ByteArray).data.toList s.data.toList = rawL s.data.toList from R5.out.symm] at HB
                    clear hpx hno RK hsz
                    go_wp2_with (first | (go_at_call 18; (with_reducible refine (HP _).mono ?_); rintro e w' ⟨rfl, rfl⟩) | (go_at_call 27; (refine (HB _ (hm.bl (hbx.alloc _))).mono ?_); rintro e w' ⟨rfl, hb9⟩))
                    go_ret
                    exact ⟨rfl, (hbx.alloc _).trans hb9⟩
                  | false =>
                    have HP := fun W => hasPrefix_is s ⟨#[60, 63]⟩ false hpx W
                    have Q0 := Lib.hid (hno.a (by omega))
                    have Q1 := Lib.hid hpx
                    clear hpx RK
                    go_wp2_with (first | (go_at_call 18; (with_reducible refine (HP _).mono ?_); rintro e w' ⟨rfl, rfl⟩))
                    go_roundw
                    case rel => exact ⟨2, by omega, rfl, hbx.alloc _, by rw [((Bl.refl wr).alloc _).block (Array.getElem?_eq_some_iff.1 hrow).1]; exact hrow, ⟨fun _ => Q0.out, fun _ => Q1.out, by omega⟩⟩
                    case measure => simp [intOf]
                · have RK := ((RF.out).trans (if_neg (by rw [hno.a (by omega)]; decide))).trans (if_neg (by rw [hno.b (by omega)]; decide))
                  cases hpx : Lib.hasPrefix s.data.toList [60, 33, 91, 67, 68, 65, 84, 65, 91] with
                  | true =>
                    have HP := fun W => hasPrefix_is s ⟨#[60, 33, 91, 67, 68, 65, 84, 65, 91]⟩ true hpx W
                    have hsz : (⟨#[60, 33, 91, 67, 68, 65, 84, 65, 91]⟩ : ByteArray).size ≤ s.size := prefix_size s _ hpx
                    have R5 := Lib.hid (RK.trans (if_pos hpx))
                    have HB := fun W hW => between_any s ⟨#[60, 33, 91, 67, 68, 65, 84, 65, 91]⟩ ⟨#[93, 93, 62]⟩ W hW hs hsz (by decide)
                    rw [show betweenL (⟨#[60, 33, 91, 67, 68, 65, 84, 65, 91]⟩ : ByteArray).data.toList (⟨#[93, 93, 62]⟩ : ByteArray).data.toList s.data.toList = rawL s.data.toList from R5.out.symm] at HB
                    clear hpx hno RK hsz
                    go_wp2_with (first | (go_at_call 18; (with_reducible refine (HP _).mono ?_); rintro e w' ⟨rfl, rfl⟩) | (go_at_call 27; (refine (HB _ (hm.bl (hbx.alloc _))).mono ?_); rintro e w' ⟨rfl, hb9⟩))
                    go_ret
                    exact ⟨rfl, (hbx.alloc _).trans hb9⟩
                  | false =>
                    have HP := fun W => hasPrefix_is s ⟨#[60, 33, 91, 67, 68, 65, 84, 65, 91]⟩ false hpx W
                    have Q0 := Lib.hid (hno.a (by omega))
                    have Q1 := Lib.hid (hno.b (by omega))
                    have Q2 := Lib.hid hpx
                    clear hpx RK
                    go_wp2_with (first | (go_at_call 18; (with_reducible refine (HP _).mono ?_); rintro e w' ⟨rfl, rfl⟩))
                    go_roundw
                    case rel => exact ⟨3, by omega, rfl, hbx.alloc _, by rw [((Bl.refl wr).alloc _).block (Array.getElem?_eq_some_iff.1 hrow).1]; exact hrow, ⟨fun _ => Q0.out, fun _ => Q1.out, fun _ => Q2.out⟩⟩
                    case measure => simp [intOf]
                · have R9 := Lib.hid ((((RF.out).trans (if_neg (by rw [hno.a (by omega)]; decide))).trans (if_neg (by rw [hno.b (by omega)]; decide))).trans (if_neg (by rw [hno.c (by omega)]; decide)))
                  go_wp2
                  go_ret
                  exact ⟨ret_int (by rw [R9.out]; rfl), hbx⟩
          · have d2 : decide ((2 : Int) < (s.size : Int)) = false := decide_eq_false (by omega)
            have RF := Lib.hid (RS.trans (if_neg (show ¬ isDecl s.data.toList = true by unfold isDecl; rw [size_len, decide_eq_false h2]; exact Bool.false_ne_true)))
            clear RS
            go_wp2
            clear h2 d2
            have hrow0 : (wr.alloc (.cells #[.string ⟨#[60, 33, 45, 45]⟩, .string ⟨#[45, 45, 62]⟩, .string ⟨#[60, 63]⟩, .string ⟨#[63, 62]⟩, .string ⟨#[60, 33, 91, 67, 68, 65, 84, 65, 91]⟩, .string ⟨#[93, 93, 62]⟩] 37)).heap[wr.heap.size]? = some (.cells #[.string ⟨#[60, 33, 45, 45]⟩, .string ⟨#[45, 45, 62]⟩, .string ⟨#[60, 63]⟩, .string ⟨#[63, 62]⟩, .string ⟨#[60, 33, 91, 67, 68, 65, 84, 65, 91]⟩, .string ⟨#[93, 93, 62]⟩] 37) := alloc_new _ _
            have hbr := hb.alloc (.cells #[.string ⟨#[60, 33, 45, 45]⟩, .string ⟨#[45, 45, 62]⟩, .string ⟨#[60, 63]⟩, .string ⟨#[63, 62]⟩, .string ⟨#[60, 33, 91, 67, 68, 65, 84, 65, 91]⟩, .string ⟨#[93, 93, 62]⟩] 37)
            obtain ⟨wo, rfl⟩ : ∃ wo : World, wo = wr := ⟨_, rfl⟩
            go_loopw [44] (fun i wr => ∃ k : Nat, k ≤ 3 ∧ i = .int .i64 k ∧ Bl w wr ∧ wr.heap[wo.heap.size]? = some (.cells #[.string ⟨#[60, 33, 45, 45]⟩, .string ⟨#[45, 45, 62]⟩, .string ⟨#[60, 63]⟩, .string ⟨#[63, 62]⟩, .string ⟨#[60, 33, 91, 67, 68, 65, 84, 65, 91]⟩, .string ⟨#[93, 93, 62]⟩] 37) ∧ NoD s k) (fun i _ => 3 - (intOf i).toNat)
            case atStart => exact ⟨0, by omega, rfl, hbr, hrow0, ⟨by omega, by omega, by omega⟩⟩
            case round =>
              clear hrow0 hbr
              obtain ⟨k, hk, rfl, hbx, hrow, hno⟩ := hrel
              have c0 : wr.cell? ⟨wo.heap.size, 0, none⟩ = some (.string ⟨#[60, 33, 45, 45]⟩) := cell_marked hrow
              have c1 : wr.cell? ⟨wo.heap.size, 1, none⟩ = some (.string ⟨#[45, 45, 62]⟩) := cell_marked hrow
              have c2 : wr.cell? ⟨wo.heap.size, 2, none⟩ = some (.string ⟨#[60, 63]⟩) := cell_marked hrow
              have c3 : wr.cell? ⟨wo.heap.size, 3, none⟩ = some (.string ⟨#[63, 62]⟩) := cell_marked hrow
              have c4 : wr.cell? ⟨wo.heap.size, 4, none⟩ = some (.string ⟨#[60, 33, 91, 67, 68, 65, 84, 65, 91]⟩) := cell_marked hrow
              have c5 : wr.cell? ⟨wo.heap.size, 5, none⟩ = some (.string ⟨#[93, 93, 62]⟩) := cell_marked hrow
              rcases (show k = 0 ∨ k = 1 ∨ k = 2 ∨ k = 3 by omega) with rfl | rfl | rfl | rfl
              · have RK := RF.out
                cases hpx : Lib.hasPrefix s.data.toList [60, 33, 45, 45] with
                | true =>
                  have HP := fun W => hasPrefix_is s ⟨#[60, 33, 45, 45]⟩ true hpx W
                  have hsz : (⟨#[60, 33, 45, 45]⟩ : ByteArray).size ≤ s.size := prefix_size s _ hpx
                  have R5 := Lib.hid (RK.trans (if_pos hpx))
                  have HB := fun W hW => between_any s ⟨#[60, 33, 45, 45]⟩ ⟨#[45, 45, 62]⟩ W hW hs hsz (by decide)
                  rw [show betweenL (⟨#[60, 33, 45, 45]⟩ : ByteArray).data.toList (⟨#[45, 45, 62]⟩ : ByteArray).data.toList s.data.toList = rawL s.data.toList from R5.out.symm] at HB
                  clear hpx hno RK hsz
                  go_wp2_with (first | (go_at_call 18; (with_reducible refine (HP _).mono ?_); rintro e w' ⟨rfl, rfl⟩) | (go_at_call 27; (refine (HB _ (hm.bl (hbx.alloc _))).mono ?_); rintro e w' ⟨rfl, hb9⟩))
                  go_ret
                  exact ⟨rfl, (hbx.alloc _).trans hb9⟩
                | false =>
                  have HP := fun W => hasPrefix_is s ⟨#[60, 33, 45, 45]⟩ false hpx W
                  have Q0 := Lib.hid hpx
                  clear hpx RK
                  go_wp2_with (first | (go_at_call 18; (with_reducible refine (HP _).mono ?_); rintro e w' ⟨rfl, rfl⟩))
                  go_roundw
                  case rel => (repeat apply Exists.intro); exact ⟨⟨1, by omega, rfl, hbx.alloc _, by rw [((Bl.refl wr).alloc _).block (Array.getElem?_eq_some_iff.1 hrow).1]; exact hrow, ⟨fun _ => Q0.out, by omega, by omega⟩⟩, rfl⟩
                  case measure => simp [intOf]
              · have RK := (RF.out).trans (if_neg (by rw [hno.a (by omega)]; decide))
                cases hpx : Lib.hasPrefix s.data.toList [60, 63] with
                | true =>
                  have HP := fun W => hasPrefix_is s ⟨#[60, 63]⟩ true hpx W
                  have hsz : (⟨#[60, 63]⟩ : ByteArray).size ≤ s.size := prefix_size s _ hpx
                  have R5 := Lib.hid (RK.trans (if_pos hpx))
                  have HB := fun W hW => between_any s ⟨#[60, 63]⟩ ⟨#[63, 62]⟩ W hW hs hsz (by decide)
                  rw [show betweenL (⟨#[60, 63]⟩ : ByteArray).data.toList (⟨#[63, 62]⟩ : ByteArray).data.toList s.data.toList = rawL s.data.toList from R5.out.symm] at HB
                  clear hpx hno RK hsz
                  go_wp2_with (first | (go_at_call 18; (with_reducible refine (HP _).mono ?_); rintro e w' ⟨rfl, rfl⟩) | (go_at_call 27; (refine (HB _ (hm.bl (hbx.alloc _))).mono ?_); rintro e w' ⟨rfl, hb9⟩))
                  go_ret
                  exact ⟨rfl, (hbx.alloc _).trans hb9⟩
                | false =>
                  have HP := fun W => hasPrefix_is s ⟨#[60, 63]⟩ false hpx W
                  have Q0 := Lib.hid (hno.a (by omega))
                  have Q1 := Lib.hid hpx
                  clear hpx RK
                  go_wp2_with (first | (go_at_call 18; (with_reducible refine (HP _).mono ?_); rintro e w' ⟨rfl, rfl⟩))
                  go_roundw
                  case rel => (repeat apply Exists.intro); exact ⟨⟨2, by omega, rfl, hbx.alloc _, by rw [((Bl.refl wr).alloc _).block (Array.getElem?_eq_some_iff.1 hrow).1]; exact hrow, ⟨fun _ => Q0.out, fun _ => Q1.out, by omega⟩⟩, rfl⟩
                  case measure => simp [intOf]
              · have RK := ((RF.out).trans (if_neg (by rw [hno.a (by omega)]; decide))).trans (if_neg (by rw [hno.b (by omega)]; decide))
                cases hpx : Lib.hasPrefix s.data.toList [60, 33, 91, 67, 68, 65, 84, 65, 91] with
                | true =>
                  have HP := fun W => hasPrefix_is s ⟨#[60, 33, 91, 67, 68, 65, 84, 65, 91]⟩ true hpx W
                  have hsz : (⟨#[60, 33, 91, 67, 68, 65, 84, 65, 91]⟩ : ByteArray).size ≤ s.size := prefix_size s _ hpx
                  have R5 := Lib.hid (RK.trans (if_pos hpx))
                  have HB := fun W hW => between_any s ⟨#[60, 33, 91, 67, 68, 65, 84, 65, 91]⟩ ⟨#[93, 93, 62]⟩ W hW hs hsz (by decide)
                  rw [show betweenL (⟨#[60, 33, 91, 67, 68, 65, 84, 65, 91]⟩ : ByteArray).data.toList (⟨#[93, 93, 62]⟩ : ByteArray).data.toList s.data.toList = rawL s.data.toList from R5.out.symm] at HB
                  clear hpx hno RK hsz
                  go_wp2_with (first | (go_at_call 18; (with_reducible refine (HP _).mono ?_); rintro e w' ⟨rfl, rfl⟩) | (go_at_call 27; (refine (HB _ (hm.bl (hbx.alloc _))).mono ?_); rintro e w' ⟨rfl, hb9⟩))
                  go_ret
                  exact ⟨rfl, (hbx.alloc _).trans hb9⟩
                | false =>
                  have HP := fun W => hasPrefix_is s ⟨#[60, 33, 91, 67, 68, 65, 84, 65, 91]⟩ false hpx W
                  have Q0 := Lib.hid (hno.a (by omega))
                  have Q1 := Lib.hid (hno.b (by omega))
                  have Q2 := Lib.hid hpx
                  clear hpx RK
                  go_wp2_with (first | (go_at_call 18; (with_reducible refine (HP _).mono ?_); rintro e w' ⟨rfl, rfl⟩))
                  go_roundw
                  case rel => (repeat apply Exists.intro); exact ⟨⟨3, by omega, rfl, hbx.alloc _, by rw [((Bl.refl wr).alloc _).block (Array.getElem?_eq_some_iff.1 hrow).1]; exact hrow, ⟨fun _ => Q0.out, fun _ => Q1.out, fun _ => Q2.out⟩⟩, rfl⟩
                  case measure => simp [intOf]
              · have R9 := Lib.hid ((((RF.out).trans (if_neg (by rw [hno.a (by omega)]; decide))).trans (if_neg (by rw [hno.b (by omega)]; decide))).trans (if_neg (by rw [hno.c (by omega)]; decide)))
                go_wp2
                go_ret
                exact ⟨ret_int (by rw [R9.out]; rfl), hbx⟩

end Go.Proofs.YtgamlckdjfjobaaDoor
