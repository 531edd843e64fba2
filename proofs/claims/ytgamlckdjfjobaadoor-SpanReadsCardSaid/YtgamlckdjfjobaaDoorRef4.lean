/- The contract of the reference's mailbox. -/
import Derived.Test.YtgamlckdjfjobaaDoorRef3
namespace Go.Proofs.YtgamlckdjfjobaaDoor
open Go.RowKit

def signsL : List UInt8 := [46, 33, 35, 36, 37, 38, 39, 42, 43, 47, 61, 63, 94, 95, 96, 123, 124, 125, 126, 45]
theorem within_sign (t : ByteArray) (b : UInt8) (ht : t.data.toList = [b]) (c : Bool) (hc : signsL.contains b = c) (w : World) :
    Calls Tryd.prog 44 #[.string ⟨#[46, 33, 35, 36, 37, 38, 39, 42, 43, 47, 61, 63, 94, 95, 96, 123, 124, 125, 126, 45]⟩, .string t] w fun e w' => e = .returned (.bool c) ∧ Bl w w' := by
  have hz : t.size ≤ 1000000 := by rw [← size_len, ht, List.length_singleton]; omega
  refine (within_any _ t w (by decide) hz).mono ?_
  rintro e w' ⟨rfl, hb⟩
  refine ⟨ret_bool ?_, hb⟩
  rw [ht, index_one, indexByte_ge]
  exact hc
theorem word_signs (b : UInt8) : wordB signsL b = (letterI (b.toNat : Int) || digitI (b.toNat : Int) || signsL.contains b) := rfl
theorem mailL_eq (l : List UInt8) : mailL l = (l.contains 64 && (!(l.takeWhile (· != 64)).isEmpty && allL (l.takeWhile (· != 64)) (wordB signsL) && (splitC 46 (l.dropWhile (· != 64)).tail).all partB)) := rfl

structure NameTo (l : List UInt8) (k : Nat) : Prop where
  mk :: (out : ∀ x ∈ l.take k, x ≠ 64 ∧ wordB signsL x = true)
theorem NameTo.succ {s : ByteArray} {k : Nat} (h : NameTo s.data.toList k) (hk : k < s.size) (h1 : s[k] ≠ 64) (h2 : wordB signsL s[k] = true) : NameTo s.data.toList (k + 1) := by
  refine ⟨fun x hx => ?_⟩
  rw [List.take_succ_eq_append_getElem (by simpa using hk)] at hx
  rcases List.mem_append.mp hx with hx | hx
  · exact h.out x hx
  · have : x = s[k] := List.mem_singleton.mp hx
    rw [this]; exact ⟨h1, h2⟩
theorem NameTo.ne {l : List UInt8} {k : Nat} (h : NameTo l k) : ∀ x ∈ l.take k, (x != 64) = true := fun x hx => by simpa using (h.out x hx).1
theorem mail_bad (s : ByteArray) (k : Nat) (hk : k < s.size) (h : NameTo s.data.toList k) (h1 : s[k] ≠ 64) (h2 : wordB signsL s[k] = false) : mailL s.data.toList = false := by
  rw [mailL_eq]
  cases hc : s.data.toList.contains 64 with
  | false => rfl
  | true =>
    have hm : s[k] ∈ s.data.toList.takeWhile (· != 64) := by
      have e : s.data.toList = s.data.toList.take (k + 1) ++ s.data.toList.drop (k + 1) := (List.take_append_drop _ _).symm
      have hx : ∀ x ∈ s.data.toList.take (k + 1), (x != 64) = true := by
        intro x hx
        rw [List.take_succ_eq_append_getElem (by simpa using hk)] at hx
        rcases List.mem_append.mp hx with hx | hx
        · exact h.ne x hx
        · have : x = s[k] := List.mem_singleton.mp hx
          rw [this]; simpa using h1
      rw [e, List.takeWhile_append_of_pos hx]
      refine List.mem_append_left _ ?_
      rw [List.mem_iff_getElem?]
      exact ⟨k, by rw [List.getElem?_take, if_pos (by omega)]; exact at_some s k hk⟩
    have : allL (s.data.toList.takeWhile (· != 64)) (wordB signsL) = false := by
      unfold allL; rw [List.all_eq_false]; exact ⟨s[k], hm, by rw [h2]; decide⟩
    rw [this]; simp
theorem mail_none (s : ByteArray) (h : NameTo s.data.toList s.size) : mailL s.data.toList = false := by
  rw [mailL_eq]
  have : s.data.toList.contains 64 = false := by
    cases e : s.data.toList.contains 64 with
    | false => rfl
    | true =>
      have hm : (64 : UInt8) ∈ s.data.toList.take s.size := by
        rw [List.take_of_length_le (by rw [size_len]; omega)]; simpa using e
      exact absurd rfl (h.out 64 hm).1
  rw [this]; rfl
theorem mail_at (s : ByteArray) (k : Nat) (hk : k < s.size) (h : NameTo s.data.toList k) (h1 : s[k] = 64) :
    mailL s.data.toList = (decide (k ≠ 0) && (splitC 46 (s.data.toList.drop (k + 1))).all partB) := by
  have hlt : k < s.data.toList.length := by rw [size_len]; exact hk
  have hx : s.data.toList[k] = 64 := h1
  have e : s.data.toList = s.data.toList.take k ++ 64 :: s.data.toList.drop (k + 1) := by
    have h2 := List.take_append_drop k s.data.toList
    rw [List.drop_eq_getElem_cons hlt, hx] at h2
    exact h2.symm
  have ht : s.data.toList.takeWhile (· != 64) = s.data.toList.take k := by
    conv => lhs; rw [e]
    exact takeWhile_app0' _ _ _ _ h.ne rfl
  have hd : s.data.toList.dropWhile (· != 64) = 64 :: s.data.toList.drop (k + 1) := by
    conv => lhs; rw [e]
    rw [List.dropWhile_append_of_pos h.ne]; rfl
  have hc : s.data.toList.contains 64 = true := by rw [e]; simp
  have ha : allL (s.data.toList.take k) (wordB signsL) = true := by
    unfold allL; rw [List.all_eq_true]; exact fun x hx => (h.out x hx).2
  have he : (s.data.toList.take k).isEmpty = decide (k = 0) := by
    rw [Bool.eq_iff_iff, List.isEmpty_iff, take_nil_iff s k hk]; simp
  rw [mailL_eq, hc, ht, hd, ha, he, List.tail_cons]
  simp

/-- Between two dots: bytes that may stand there. -/
structure SegTo (l : List UInt8) (f i : Nat) : Prop where
  mk :: (out : ∀ x ∈ (l.drop f).take (i - f), x ≠ 46 ∧ wordB [45] x = true)
theorem SegTo.start (l : List UInt8) (f : Nat) : SegTo l f f := ⟨fun x hx => by simp at hx⟩
theorem drop_take_snoc (s : ByteArray) (f i : Nat) (hf : f ≤ i) (hi : i < s.size) : (s.data.toList.drop f).take (i + 1 - f) = (s.data.toList.drop f).take (i - f) ++ [s[i]] := by
  have e : i + 1 - f = (i - f) + 1 := by omega
  have hl : i - f < (s.data.toList.drop f).length := by rw [List.length_drop, size_len]; omega
  have hx : (s.data.toList.drop f)[i - f] = s[i] := by
    rw [List.getElem_drop]
    have : f + (i - f) = i := by omega
    simp only [this]; rfl
  rw [e, List.take_succ_eq_append_getElem hl, hx]
theorem SegTo.succ {s : ByteArray} {f i : Nat} (h : SegTo s.data.toList f i) (hf : f ≤ i) (hi : i < s.size) (h1 : s[i] ≠ 46) (h2 : wordB [45] s[i] = true) : SegTo s.data.toList f (i + 1) := by
  refine ⟨fun x hx => ?_⟩
  rw [drop_take_snoc s f i hf hi] at hx
  rcases List.mem_append.mp hx with hx | hx
  · exact h.out x hx
  · have : x = s[i] := List.mem_singleton.mp hx
    rw [this]; exact ⟨h1, h2⟩
theorem SegTo.no {l : List UInt8} {f i : Nat} (h : SegTo l f i) : ((l.drop f).take (i - f)).contains 46 = false := by
  cases e : ((l.drop f).take (i - f)).contains 46 with
  | false => rfl
  | true => exact absurd rfl (h.out 46 (by simpa using e)).1
theorem seg_split (s : ByteArray) (f i : Nat) (hf : f ≤ i) (hi : i < s.size) : s.data.toList.drop f = (s.data.toList.drop f).take (i - f) ++ s[i] :: s.data.toList.drop (i + 1) := by
  have h2 := List.take_append_drop (i - f) (s.data.toList.drop f)
  have hlt : i < s.data.toList.length := by rw [size_len]; exact hi
  rw [List.drop_drop, show f + (i - f) = i by omega, List.drop_eq_getElem_cons hlt] at h2
  exact h2.symm
theorem host_dot (s : ByteArray) (f i : Nat) (hf : f ≤ i) (hi : i < s.size) (h : SegTo s.data.toList f i) (h1 : s[i] = 46) :
    (splitC 46 (s.data.toList.drop f)).all partB = (partB ((s.data.toList.drop f).take (i - f)) && (splitC 46 (s.data.toList.drop (i + 1))).all partB) := by
  conv => lhs; rw [seg_split s f i hf hi, h1, splitC_app 46 _ _ h.no, List.all_cons]
theorem host_end (s : ByteArray) (f : Nat) (h : SegTo s.data.toList f s.size) : (splitC 46 (s.data.toList.drop f)).all partB = partB ((s.data.toList.drop f).take (s.size - f)) := by
  have e : (s.data.toList.drop f).take (s.size - f) = s.data.toList.drop f := List.take_of_length_le (by rw [List.length_drop, size_len]; omega)
  have hn := h.no
  rw [e] at hn ⊢
  rw [splitC_out hn]; simp
theorem splitC_head (c : UInt8) : ∀ (p r : List UInt8), p.contains c = false → ∃ q t, splitC c (p ++ r) = (p ++ q) :: t
  | [], r, _ => by
    obtain ⟨q, t, e⟩ := List.exists_cons_of_ne_nil (splitC_ne c r)
    exact ⟨q, t, e⟩
  | a :: p, r, h => by
    rw [List.contains_cons, Bool.or_eq_false_iff] at h
    have h1 : (a == c) = false := by
      have := h.1; simp at this ⊢; exact fun e => this e.symm
    obtain ⟨q, t, e⟩ := splitC_head c p r h.2
    refine ⟨q, t, ?_⟩
    rw [List.cons_append, splitC, h1, e]; rfl
theorem host_bad (s : ByteArray) (f i : Nat) (hf : f ≤ i) (hi : i < s.size) (h : SegTo s.data.toList f i) (h1 : s[i] ≠ 46) (h2 : wordB [45] s[i] = false) : (splitC 46 (s.data.toList.drop f)).all partB = false := by
  have hn : ((s.data.toList.drop f).take (i - f) ++ [s[i]]).contains 46 = false := by
    have := h.no
    simp at this ⊢
    exact ⟨this, fun e => h1 e.symm⟩
  obtain ⟨q, t, e⟩ := splitC_head 46 ((s.data.toList.drop f).take (i - f) ++ [s[i]]) (s.data.toList.drop (i + 1)) hn
  have e2 : s.data.toList.drop f = ((s.data.toList.drop f).take (i - f) ++ [s[i]]) ++ s.data.toList.drop (i + 1) := by
    rw [List.append_assoc]; exact seg_split s f i hf hi
  rw [e2, e, List.all_cons]
  have : partB (((s.data.toList.drop f).take (i - f) ++ [s[i]]) ++ q) = false := by
    unfold partB
    have ha : allL (((s.data.toList.drop f).take (i - f) ++ [s[i]]) ++ q) (wordB [45]) = false := by
      unfold allL; rw [List.all_eq_false]; exact ⟨s[i], by simp, by rw [h2]; decide⟩
    rw [ha]; simp
  rw [this]; rfl
theorem seg_part (s : ByteArray) (f i : Nat) (hf : f < i) (hi : i ≤ s.size) (h : SegTo s.data.toList f i) :
    partB ((s.data.toList.drop f).take (i - f)) = (decide (i - f ≤ 63) && !(s[f]'(by omega) == 45) && !(s[i - 1]'(by omega) == 45)) := by
  have hlen : ((s.data.toList.drop f).take (i - f)).length = i - f := by rw [List.length_take, List.length_drop, size_len]; omega
  have hall : allL ((s.data.toList.drop f).take (i - f)) (wordB [45]) = true := by
    unfold allL; rw [List.all_eq_true]; exact fun x hx => (h.out x hx).2
  have hne : ((s.data.toList.drop f).take (i - f)).isEmpty = false := by
    cases e : (s.data.toList.drop f).take (i - f) with
    | nil => rw [e] at hlen; simp at hlen; omega
    | cons a l => rfl
  have hh : ((s.data.toList.drop f).take (i - f)).headD 0 = s[f]'(by omega) := by
    rw [List.headD_eq_head?_getD, List.head?_take, if_neg (by omega), List.head?_drop, at_some s f (by omega)]; rfl
  have hg : ((s.data.toList.drop f).take (i - f)).getLastD 0 = s[i - 1]'(by omega) := by
    rw [List.getLastD_eq_getLast?, List.getLast?_eq_getElem?, hlen, List.getElem?_take, if_pos (by omega), List.getElem?_drop, show f + (i - f - 1) = i - 1 by omega, at_some s (i - 1) (by omega)]; rfl
  unfold partB
  rw [hne, hlen, hall, hh, hg]
  simp [Bool.and_assoc]
theorem seg_empty (l : List UInt8) (f : Nat) : partB ((l.drop f).take (f - f)) = false := by
  rw [Nat.sub_self, List.take_zero]; rfl
theorem word_45 (b : UInt8) : wordB [45] b = (letterI (b.toNat : Int) || digitI (b.toNat : Int) || ((b.toNat : Int) == 45)) := by
  unfold wordB
  rw [eq_of_byte (c := 45) 45 rfl]
  simp only [List.contains_cons, List.contains_nil, Bool.or_false]

set_option maxRecDepth 100000 in
set_option maxHeartbeats 4000000 in
theorem r12mailbox_any (s : ByteArray) (w : World) (hs : s.size ≤ 1000000) :
    Calls Tryd.prog 24 #[.string s] w fun e w' => e = .returned (.bool (mailL s.data.toList)) ∧ Bl w w' := by
  go_enter Tryd.func24, Tryd.ntmps24
  go_wp2
  go_loopw [3] (fun i wr => ∃ k : Nat, k ≤ s.size ∧ i = .int .i64 k ∧ Bl w wr ∧ NameTo s.data.toList k) (fun i _ => s.size - (intOf i).toNat)
  case atStart => exact ⟨0, Nat.zero_le _, rfl, Bl.refl _, ⟨fun x hx => by simp at hx⟩⟩
  case round =>
    obtain ⟨k, hk, rfl, hb, hname⟩ := hrel
    by_cases hlt : k < s.size
    · have E64 := Lib.hid (eq_of_byte (b := s[k]) (c := 64) 64 rfl)
      have N64 : ((s[k].toNat : Int) != 64) = !((s[k].toNat : Int) == 64) := rfl
      cases h64 : ((s[k].toNat : Int) == 64) with
      | false =>
        rw [h64] at N64 E64
        have NE := Lib.hid (show s[k] ≠ 64 by have := E64.out; intro e; rw [e] at this; exact absurd this (by decide))
        have HW := Lib.hid (word_signs s[k])
        have LL : s.extract k (k + 1) = s.extract k (k + 1) := rfl
        clear LL E64
        cases hl : letterI (s[k].toNat : Int) with
        | true =>
          rw [hl] at HW
          go_wp2_with (first | (go_at_call 31; (with_reducible refine (r12letter_any _ _).mono ?_); rintro e w' ⟨rfl, rfl⟩) | (go_at_call 43; (with_reducible refine (r12digit_any _ _).mono ?_); rintro e w' ⟨rfl, rfl⟩))
          go_roundw
          case rel => exact ⟨k + 1, by omega, by go_num, hb, hname.succ hlt NE.out (by rw [HW.out]; rfl)⟩
          case measure => simp [intOf]; omega
        | false =>
          rw [hl] at HW
          cases hdg : digitI (s[k].toNat : Int) with
          | true =>
            rw [hdg] at HW
            go_wp2_with (first | (go_at_call 31; (with_reducible refine (r12letter_any _ _).mono ?_); rintro e w' ⟨rfl, rfl⟩) | (go_at_call 43; (with_reducible refine (r12digit_any _ _).mono ?_); rintro e w' ⟨rfl, rfl⟩))
            go_roundw
            case rel => exact ⟨k + 1, by omega, by go_num, hb, hname.succ hlt NE.out (by rw [HW.out]; rfl)⟩
            case measure => simp [intOf]; omega
          | false =>
            rw [hdg] at HW
            obtain ⟨t, et⟩ : ∃ t, s.extract k (k + 1) = t := ⟨_, rfl⟩
            have htd : t.data.toList = [s[k]] := by
              rw [← et, Lib.extract_data, show k + 1 - k = 1 by omega]
              have hlt' : k < s.data.toList.length := by rw [size_len]; exact hlt
              rw [List.drop_eq_getElem_cons hlt', List.take_succ_cons, List.take_zero]; rfl
            cases hsg : signsL.contains s[k] with
            | true =>
              rw [hsg] at HW
              have HWI := within_sign t s[k] htd true hsg
              clear htd hsg
              go_wp2_with (first | (go_at_call 31; (with_reducible refine (r12letter_any _ _).mono ?_); rintro e w' ⟨rfl, rfl⟩) | (go_at_call 43; (with_reducible refine (r12digit_any _ _).mono ?_); rintro e w' ⟨rfl, rfl⟩) | (go_at_call 44; (with_reducible refine (HWI _).mono ?_); rintro e w9 ⟨rfl, hb9⟩))
              go_roundw
              case rel => exact ⟨k + 1, by omega, by go_num, hb.trans hb9, hname.succ hlt NE.out (by rw [HW.out]; rfl)⟩
              case measure => simp [intOf]; omega
            | false =>
              rw [hsg] at HW
              have HWI := within_sign t s[k] htd false hsg
              have R := Lib.hid (mail_bad s k hlt hname NE.out HW.out)
              clear htd hsg
              go_wp2_with (first | (go_at_call 31; (with_reducible refine (r12letter_any _ _).mono ?_); rintro e w' ⟨rfl, rfl⟩) | (go_at_call 43; (with_reducible refine (r12digit_any _ _).mono ?_); rintro e w' ⟨rfl, rfl⟩) | (go_at_call 44; (with_reducible refine (HWI _).mono ?_); rintro e w9 ⟨rfl, hb9⟩))
              go_ret
              exact ⟨ret_bool (by rw [R.out]), hb.trans hb9⟩
      | true =>
        rw [h64] at N64 E64
        have hx : s[k] = 64 := by simpa using E64.out.symm
        have RM := Lib.hid (mail_at s k hlt hname hx)
        have kne : ((k : Int) == (s.size : Int)) = false := beq_eq_false_iff_ne.2 (by omega)
        clear E64 hx
        by_cases h0 : k = 0
        · subst h0
          go_wp2
          go_ret
          exact ⟨ret_bool (by rw [RM.out]; simp), hb⟩
        · have k0 : ((k : Int) == 0) = false := beq_eq_false_iff_ne.2 (by omega)
          have RX := Lib.hid (show mailL s.data.toList = (splitC 46 (s.data.toList.drop (k + 1))).all partB by rw [RM.out, decide_eq_true h0]; rfl)
          clear h0 RM hname
          go_wp2
          clear k0 kne N64 h64
          go_loopw [4, 5] (fun fv iv wr => ∃ f i : Nat, k + 1 ≤ f ∧ fv = .int .i64 f ∧ iv = .int .i64 i ∧ i ≤ s.size + 1 ∧ Bl w wr ∧
            Hid ((f ≤ i ∧ i ≤ s.size ∧ SegTo s.data.toList f i ∧ mailL s.data.toList = (splitC 46 (s.data.toList.drop f)).all partB) ∨ (i = s.size + 1 ∧ mailL s.data.toList = true))) (fun _ iv _ => s.size + 1 - (intOf iv).toNat)
          case atStart => exact ⟨k + 1, k + 1, Nat.le_refl _, by go_num, by go_num, by omega, hb, Lib.hid (Or.inl ⟨Nat.le_refl _, by omega, SegTo.start _ _, RX.out⟩)⟩
          case round =>
            clear hb
            obtain ⟨f, i, hkf, rfl, rfl, hi1, hb, hrel⟩ := hrel
            rcases hrel.out with ⟨hfi, his, hseg, hM⟩ | ⟨hie, hM⟩
            · have M := Lib.hid hM
              have di : decide ((i : Int) ≤ (s.size : Int)) = true := decide_eq_true (by omega)
              have di2 : decide (i ≤ s.size) = true := decide_eq_true (by omega)
              clear hM hrel
              by_cases hil : i < s.size
              · have dil : decide (i < s.size) = true := decide_eq_true hil
                have E46 := Lib.hid (eq_of_byte (b := s[i]) (c := 46) 46 rfl)
                have N46 : ((s[i].toNat : Int) != 46) = !((s[i].toNat : Int) == 46) := rfl
                cases h46 : ((s[i].toNat : Int) == 46) with
                | false =>
                  rw [h46] at N46 E46
                  have NE := Lib.hid (show s[i] ≠ 46 by have := E46.out; intro e; rw [e] at this; exact absurd this (by decide))
                  have HW := Lib.hid (word_45 s[i])
                  clear E46
                  cases hl : letterI (s[i].toNat : Int) with
                  | true =>
                    rw [hl] at HW
                    go_wp2_with (first | (go_at_call 31; (with_reducible refine (r12letter_any _ _).mono ?_); rintro e w' ⟨rfl, rfl⟩) | (go_at_call 43; (with_reducible refine (r12digit_any _ _).mono ?_); rintro e w' ⟨rfl, rfl⟩))
                    go_roundw
                    case rel => exact ⟨f, i + 1, hkf, rfl, by go_num, by omega, hb, Lib.hid (Or.inl ⟨by omega, by omega, hseg.succ hfi hil NE.out (by rw [HW.out]; rfl), M.out⟩)⟩
                    case measure => simp [intOf]; omega
                  | false =>
                    rw [hl] at HW
                    cases hdg : digitI (s[i].toNat : Int) with
                    | true =>
                      rw [hdg] at HW
                      go_wp2_with (first | (go_at_call 31; (with_reducible refine (r12letter_any _ _).mono ?_); rintro e w' ⟨rfl, rfl⟩) | (go_at_call 43; (with_reducible refine (r12digit_any _ _).mono ?_); rintro e w' ⟨rfl, rfl⟩))
                      go_roundw
                      case rel => exact ⟨f, i + 1, hkf, rfl, by go_num, by omega, hb, Lib.hid (Or.inl ⟨by omega, by omega, hseg.succ hfi hil NE.out (by rw [HW.out]; rfl), M.out⟩)⟩
                      case measure => simp [intOf]; omega
                    | false =>
                      rw [hdg] at HW
                      have N45 : ((s[i].toNat : Int) != 45) = !((s[i].toNat : Int) == 45) := rfl
                      cases h45 : ((s[i].toNat : Int) == 45) with
                      | true =>
                        rw [h45] at HW N45
                        go_wp2_with (first | (go_at_call 31; (with_reducible refine (r12letter_any _ _).mono ?_); rintro e w' ⟨rfl, rfl⟩) | (go_at_call 43; (with_reducible refine (r12digit_any _ _).mono ?_); rintro e w' ⟨rfl, rfl⟩))
                        go_roundw
                        case rel => exact ⟨f, i + 1, hkf, rfl, by go_num, by omega, hb, Lib.hid (Or.inl ⟨by omega, by omega, hseg.succ hfi hil NE.out (by rw [HW.out]; rfl), M.out⟩)⟩
                        case measure => simp [intOf]; omega
                      | false =>
                        rw [h45] at HW N45
                        have R := Lib.hid (M.out.trans (host_bad s f i hfi hil hseg NE.out HW.out))
                        go_wp2_with (first | (go_at_call 31; (with_reducible refine (r12letter_any _ _).mono ?_); rintro e w' ⟨rfl, rfl⟩) | (go_at_call 43; (with_reducible refine (r12digit_any _ _).mono ?_); rintro e w' ⟨rfl, rfl⟩))
                        go_ret
                        exact ⟨ret_bool (by rw [R.out]), hb⟩
                | true =>
                  rw [h46] at N46 E46
                  have hx : s[i] = 46 := by simpa using E46.out.symm
                  have HD := Lib.hid (M.out.trans (host_dot s f i hfi hil hseg hx))
                  clear E46 hx
                  by_cases hif : i = f
                  · subst hif
                    have R := Lib.hid (show mailL s.data.toList = false by rw [HD.out, seg_empty]; rfl)
                    go_wp2_with (first | (go_at_call 31; (with_reducible refine (r12letter_any _ _).mono ?_); rintro e w' ⟨rfl, rfl⟩) | (go_at_call 43; (with_reducible refine (r12digit_any _ _).mono ?_); rintro e w' ⟨rfl, rfl⟩))
                    go_ret
                    exact ⟨ret_bool (by rw [R.out]), hb⟩
                  have hfl : f < i := by omega
                  have SP := Lib.hid (seg_part s f i hfl his hseg)
                  have ne1 : ((i : Int) == (f : Int)) = false := beq_eq_false_iff_ne.2 (by omega)
                  have hfs : f < s.size := by omega
                  have his1 : i - 1 < s.size := by omega
                  have ti : ((i : Int) - 1).toNat = i - 1 := by omega
                  have F45 := Lib.hid (eq_of_byte (b := s[f]) (c := 45) 45 rfl)
                  have G45 := Lib.hid (eq_of_byte (b := s[i - 1]) (c := 45) 45 rfl)
                  have p1 : 0 ≤ (i : Int) - 1 := by omega
                  have p2 : (i : Int) - 1 < (s.size : Int) := by omega
                  clear hif
                  rcases Nat.lt_or_ge 63 (i - f) with h63 | h63
                  · have d63 : decide ((63 : Int) < (i : Int) - (f : Int)) = true := decide_eq_true (by omega)
                    have R := Lib.hid (show mailL s.data.toList = false by rw [HD.out, SP.out, decide_eq_false (by omega : ¬ i - f ≤ 63)]; rfl)
                    go_wp2_with (first | (go_at_call 31; (with_reducible refine (r12letter_any _ _).mono ?_); rintro e w' ⟨rfl, rfl⟩) | (go_at_call 43; (with_reducible refine (r12digit_any _ _).mono ?_); rintro e w' ⟨rfl, rfl⟩))
                    go_ret
                    exact ⟨ret_bool (by rw [R.out]), hb⟩
                  have d63 : decide ((63 : Int) < (i : Int) - (f : Int)) = false := decide_eq_false (by omega)
                  have D63 := Lib.hid (decide_eq_true h63)
                  cases h1 : ((s[f].toNat : Int) == 45) with
                  | true =>
                    rw [h1] at F45
                    have R := Lib.hid (show mailL s.data.toList = false by rw [HD.out, SP.out, ← F45.out]; simp)
                    go_wp2_with (first | (go_at_call 31; (with_reducible refine (r12letter_any _ _).mono ?_); rintro e w' ⟨rfl, rfl⟩) | (go_at_call 43; (with_reducible refine (r12digit_any _ _).mono ?_); rintro e w' ⟨rfl, rfl⟩))
                    go_ret
                    exact ⟨ret_bool (by rw [R.out]), hb⟩
                  | false =>
                    rw [h1] at F45
                    cases h2 : ((s[i - 1].toNat : Int) == 45) with
                    | true =>
                      rw [h2] at G45
                      have R := Lib.hid (show mailL s.data.toList = false by rw [HD.out, SP.out, ← G45.out]; simp)
                      go_wp2_with (first | (go_at_call 31; (with_reducible refine (r12letter_any _ _).mono ?_); rintro e w' ⟨rfl, rfl⟩) | (go_at_call 43; (with_reducible refine (r12digit_any _ _).mono ?_); rintro e w' ⟨rfl, rfl⟩))
                      go_ret
                      exact ⟨ret_bool (by rw [R.out]), hb⟩
                    | false =>
                      rw [h2] at G45
                      have R := Lib.hid (show mailL s.data.toList = (splitC 46 (s.data.toList.drop (i + 1))).all partB by rw [HD.out, SP.out, ← F45.out, ← G45.out, D63.out]; rfl)
                      go_wp2_with (first | (go_at_call 31; (with_reducible refine (r12letter_any _ _).mono ?_); rintro e w' ⟨rfl, rfl⟩) | (go_at_call 43; (with_reducible refine (r12digit_any _ _).mono ?_); rintro e w' ⟨rfl, rfl⟩))
                      go_roundw
                      case rel => exact ⟨i + 1, i + 1, by omega, by go_num, by go_num, by omega, hb, Lib.hid (Or.inl ⟨Nat.le_refl _, by omega, SegTo.start _ _, R.out⟩)⟩
                      case measure => simp [intOf]; omega
              · have dil : decide (i < s.size) = false := decide_eq_false hil
                have hie : i = s.size := by omega
                have HD := Lib.hid (show mailL s.data.toList = partB ((s.data.toList.drop f).take (i - f)) by rw [M.out, hie]; rw [hie] at hseg; exact host_end s f hseg)
                clear hie
                by_cases hif : i = f
                · subst hif
                  have R := Lib.hid (show mailL s.data.toList = false by rw [HD.out]; exact seg_empty _ _)
                  go_wp2_with (first | (go_at_call 31; (with_reducible refine (r12letter_any _ _).mono ?_); rintro e w' ⟨rfl, rfl⟩) | (go_at_call 43; (with_reducible refine (r12digit_any _ _).mono ?_); rintro e w' ⟨rfl, rfl⟩))
                  go_ret
                  exact ⟨ret_bool (by rw [R.out]), hb⟩
                have hfl : f < i := by omega
                have SP := Lib.hid (seg_part s f i hfl his hseg)
                have ne1 : ((i : Int) == (f : Int)) = false := beq_eq_false_iff_ne.2 (by omega)
                have hfs : f < s.size := by omega
                have his1 : i - 1 < s.size := by omega
                have ti : ((i : Int) - 1).toNat = i - 1 := by omega
                have F45 := Lib.hid (eq_of_byte (b := s[f]) (c := 45) 45 rfl)
                have G45 := Lib.hid (eq_of_byte (b := s[i - 1]) (c := 45) 45 rfl)
                have p1 : 0 ≤ (i : Int) - 1 := by omega
                have p2 : (i : Int) - 1 < (s.size : Int) := by omega
                clear hif
                rcases Nat.lt_or_ge 63 (i - f) with h63 | h63
                · have d63 : decide ((63 : Int) < (i : Int) - (f : Int)) = true := decide_eq_true (by omega)
                  have R := Lib.hid (show mailL s.data.toList = false by rw [HD.out, SP.out, decide_eq_false (by omega : ¬ i - f ≤ 63)]; rfl)
                  go_wp2_with (first | (go_at_call 31; (with_reducible refine (r12letter_any _ _).mono ?_); rintro e w' ⟨rfl, rfl⟩) | (go_at_call 43; (with_reducible refine (r12digit_any _ _).mono ?_); rintro e w' ⟨rfl, rfl⟩))
                  go_ret
                  exact ⟨ret_bool (by rw [R.out]), hb⟩
                have d63 : decide ((63 : Int) < (i : Int) - (f : Int)) = false := decide_eq_false (by omega)
                have D63 := Lib.hid (decide_eq_true h63)
                cases h1 : ((s[f].toNat : Int) == 45) with
                | true =>
                  rw [h1] at F45
                  have R := Lib.hid (show mailL s.data.toList = false by rw [HD.out, SP.out, ← F45.out]; simp)
                  go_wp2_with (first | (go_at_call 31; (with_reducible refine (r12letter_any _ _).mono ?_); rintro e w' ⟨rfl, rfl⟩) | (go_at_call 43; (with_reducible refine (r12digit_any _ _).mono ?_); rintro e w' ⟨rfl, rfl⟩))
                  go_ret
                  exact ⟨ret_bool (by rw [R.out]), hb⟩
                | false =>
                  rw [h1] at F45
                  cases h2 : ((s[i - 1].toNat : Int) == 45) with
                  | true =>
                    rw [h2] at G45
                    have R := Lib.hid (show mailL s.data.toList = false by rw [HD.out, SP.out, ← G45.out]; simp)
                    go_wp2_with (first | (go_at_call 31; (with_reducible refine (r12letter_any _ _).mono ?_); rintro e w' ⟨rfl, rfl⟩) | (go_at_call 43; (with_reducible refine (r12digit_any _ _).mono ?_); rintro e w' ⟨rfl, rfl⟩))
                    go_ret
                    exact ⟨ret_bool (by rw [R.out]), hb⟩
                  | false =>
                    rw [h2] at G45
                    have R := Lib.hid (show mailL s.data.toList = true by rw [HD.out, SP.out, ← F45.out, ← G45.out, D63.out]; rfl)
                    go_wp2_with (first | (go_at_call 31; (with_reducible refine (r12letter_any _ _).mono ?_); rintro e w' ⟨rfl, rfl⟩) | (go_at_call 43; (with_reducible refine (r12digit_any _ _).mono ?_); rintro e w' ⟨rfl, rfl⟩))
                    go_roundw
                    case rel => exact ⟨i + 1, i + 1, by omega, by go_num, by go_num, by omega, hb, Lib.hid (Or.inr ⟨by omega, R.out⟩)⟩
                    case measure => simp [intOf]; omega
            · subst hie
              have di : decide (((s.size + 1 : Nat) : Int) ≤ (s.size : Int)) = false := decide_eq_false (by omega)
              have di2 : decide ((s.size : Int) + 1 ≤ (s.size : Int)) = false := decide_eq_false (by omega)
              have M := Lib.hid hM
              clear hM hrel
              go_wp2
              go_ret
              exact ⟨ret_bool (by rw [M.out]), hb⟩
    · obtain rfl : k = s.size := by omega
      have R := Lib.hid (mail_none s hname)
      have dk : decide (s.size < s.size) = false := decide_eq_false (by omega)
      rcases Nat.eq_zero_or_pos s.size with e0 | hp
      · obtain rfl := str_nil e0
        go_wp2
        go_ret
        exact ⟨ret_bool (by rw [R.out]), hb⟩
      have k0 : ((s.size : Int) == 0) = false := beq_eq_false_iff_ne.2 (by omega)
      go_wp2
      go_ret
      exact ⟨ret_bool (by rw [R.out]), hb⟩

end Go.Proofs.YtgamlckdjfjobaaDoor
