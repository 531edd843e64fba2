/- scan.named, the bytes of names and values, and the scanner's while. -/
import Derived.Test.YtgamlckdjfjobaaDoorScan1
namespace Go.Proofs.YtgamlckdjfjobaaDoor
open Go.RowKit

def nameB (b : UInt8) : Bool := letterI (b.toNat : Int) || digitI (b.toNat : Int) || b == 45
def namedL (l : List UInt8) : List UInt8 × List UInt8 :=
  if letterI ((l.headD 0).toNat : Int) then (l.headD 0 :: l.tail.takeWhile nameB, l.tail.dropWhile nameB) else ([], l)
def nameT (t : ByteArray) : ByteArray := mkB (namedL t.data.toList).1
def restT (t : ByteArray) : ByteArray := mkB (namedL t.data.toList).2

theorem name_byte (b : UInt8) : ((b.toNat : Int) == 45) = (b == 45) := eq_of_byte 45 rfl
theorem takeWhile_tail_stop {p : UInt8 → Bool} {l : List UInt8} {k : Nat} (h1 : 1 ≤ k) (hk : k ≤ l.length) (ha : ((l.take k).tail).all p = true) (hs : ∀ a, l[k]? = some a → p a = false) : (l.tail.takeWhile p).length = k - 1 := by
  refine takeWhile_stop p l.tail (k - 1) (by rw [List.length_tail]; omega) ?_ ?_
  · rw [← List.drop_one, List.drop_take] at ha; rw [← List.drop_one]; exact ha
  · intro a h
    refine hs a ?_
    rw [← List.drop_one, List.getElem?_drop] at h
    rw [← h]; congr 1; omega

theorem named_eq (t : ByteArray) (k : Nat) (h1 : 1 ≤ k) (hk : k ≤ t.size) (hl : letterI ((t.data.toList.headD 0).toNat : Int) = true)
    (ha : ((t.data.toList.take k).tail).all nameB = true) (hs : ∀ a, t.data.toList[k]? = some a → nameB a = false) :
    t.extract 0 k = nameT t ∧ t.extract k t.size = restT t := by
  have e := takeWhile_tail_stop h1 (by rw [size_len]; exact hk) ha hs
  have hn : t.data.toList ≠ [] := by
    intro e0; have := size_len t; rw [e0] at this; simp at this; omega
  obtain ⟨a, r, er⟩ := List.exists_cons_of_ne_nil hn
  have hk2 : k = (k - 1) + 1 := by omega
  refine ⟨str_eq ?_, str_eq ?_⟩
  · rw [Lib.extract_data, nameT, mkB_data, namedL, if_pos hl, List.drop_zero, Nat.sub_zero]
    rw [er] at e ⊢
    simp only [List.headD_cons, List.tail_cons] at e ⊢
    rw [hk2, List.take_succ_cons, ← e, takeWhile_take]
  · rw [Lib.extract_to_end, restT, mkB_data, namedL, if_pos hl]
    rw [er] at e ⊢
    simp only [List.tail_cons] at e ⊢
    rw [hk2, List.drop_succ_cons, ← e, takeWhile_drop]

theorem tail_all_succ (s : ByteArray) (p : UInt8 → Bool) (k : Nat) (h1 : 1 ≤ k) (h : k < s.size) : ((s.data.toList.take (k + 1)).tail).all p = (((s.data.toList.take k).tail).all p && p s[k]) := by
  rw [List.take_succ_eq_append_getElem (by simpa using h), List.tail_append_of_ne_nil, List.all_append]
  · simp; rfl
  · intro e
    have h2 : (s.data.toList.take k).length = 0 := by rw [e]; rfl
    rw [List.length_take, size_len] at h2
    omega

set_option maxHeartbeats 1000000 in
theorem named_any (t : ByteArray) (w : World) (hs : t.size ≤ 1000000) :
    Calls Tryd.prog 46 #[.string t] w fun e w' => e = .returned (.tuple #[.string (nameT t), .string (restT t)]) ∧ Bl w w' := by
  rcases Nat.eq_zero_or_pos t.size with e | hp
  · obtain rfl := str_nil e
    go_enter Tryd.func46, Tryd.ntmps46
    go_wp2
    go_ret2
    exact ⟨rfl, Bl.refl _⟩
  · have e1 := isEmpty_false hp
    have hd := headD_at t hp
    have b0 : (0 : Int) ≤ (t[0].toNat : Int) := by omega
    have b1 : (t[0].toNat : Int) < 256 := by have := t[0].toNat_lt; omega
    cases hl : letterI (t[0].toNat : Int) with
    | false =>
      have R : nameT t = ⟨#[]⟩ ∧ restT t = t := by
        unfold nameT restT namedL
        rw [hd, hl]
        exact ⟨rfl, mkB_self t⟩
      have R2 := Lib.hid R
      clear hd R
      go_enter Tryd.func46, Tryd.ntmps46
      go_wp2_with (first | (go_at_call 26; (with_reducible refine (letter_any _ b0 b1 _).mono ?_); rintro e w' ⟨rfl, rfl⟩))
      go_ret2
      exact ⟨by rw [R2.out.1, R2.out.2]; rfl, Bl.refl _⟩
    | true =>
      have HL := Lib.hid (show letterI ((t.data.toList.headD 0).toNat : Int) = true by rw [hd]; exact hl)
      clear hd
      go_enter Tryd.func46, Tryd.ntmps46
      go_wp2_with (first | (go_at_call 26; (with_reducible refine (letter_any _ b0 b1 _).mono ?_); rintro e w' ⟨rfl, rfl⟩))
      clear hl b0 b1
      go_loopw [4] (fun i wr => ∃ k : Nat, 1 ≤ k ∧ k ≤ t.size ∧ i = .int .i64 k ∧ Bl w wr ∧ Hid (((t.data.toList.take k).tail).all nameB = true)) (fun i _ => t.size - (intOf i).toNat)
      case atStart => exact ⟨1, Nat.le_refl _, hp, rfl, Bl.refl _, Lib.hid (by cases t.data.toList <;> simp)⟩
      case round =>
        obtain ⟨k, h1k, hk, rfl, hb, hall⟩ := hrel
        by_cases hlt : k < t.size
        · have b0 : (0 : Int) ≤ (t[k].toNat : Int) := by omega
          have b1 : (t[k].toNat : Int) < 256 := by have := t[k].toNat_lt; omega
          have HK := Lib.hid (tail_all_succ t nameB k h1k hlt)
          have hq : nameB t[k] = (letterI (t[k].toNat : Int) || digitI (t[k].toNat : Int) || ((t[k].toNat : Int) == 45)) := by rw [name_byte]; rfl
          have HQ := Lib.hid hq
          have AT := Lib.hid (at_some t k hlt)
          clear hq
          cases hl : letterI (t[k].toNat : Int) with
          | true =>
            rw [hl] at HQ
            go_wp2_with (first | (go_at_call 26; (with_reducible refine (letter_any _ b0 b1 _).mono ?_); rintro e w' ⟨rfl, rfl⟩))
            go_roundw
            case rel => exact ⟨k + 1, by omega, by omega, by go_num, hb, Lib.hid (by rw [HK.out, hall.out, HQ.out]; rfl)⟩
            case measure => simp [intOf]; omega
          | false =>
            cases hdg : digitI (t[k].toNat : Int) with
            | true =>
              rw [hdg] at HQ
              go_wp2_with (first | (go_at_call 26; (with_reducible refine (letter_any _ b0 b1 _).mono ?_); rintro e w' ⟨rfl, rfl⟩) | (go_at_call 66; (with_reducible refine (digit_any _ _).mono ?_); rintro e w' ⟨rfl, rfl⟩))
              go_roundw
              case rel => exact ⟨k + 1, by omega, by omega, by go_num, hb, Lib.hid (by rw [HK.out, hall.out, HQ.out]; simp)⟩
              case measure => simp [intOf]; omega
            | false =>
              rw [hl, hdg] at HQ
              cases h45 : ((t[k].toNat : Int) == 45) with
              | true =>
                rw [h45] at HQ
                go_wp2_with (first | (go_at_call 26; (with_reducible refine (letter_any _ b0 b1 _).mono ?_); rintro e w' ⟨rfl, rfl⟩) | (go_at_call 66; (with_reducible refine (digit_any _ _).mono ?_); rintro e w' ⟨rfl, rfl⟩))
                go_roundw
                case rel => exact ⟨k + 1, by omega, by omega, by go_num, hb, Lib.hid (by rw [HK.out, hall.out, HQ.out]; rfl)⟩
                case measure => simp [intOf]; omega
              | false =>
                rw [h45] at HQ
                have E := Lib.hid (named_eq t k h1k hk HL.out hall.out (fun a ha => by rw [Option.some.inj (ha.symm.trans AT.out)]; exact HQ.out))
                go_wp2_with (first | (go_at_call 26; (with_reducible refine (letter_any _ b0 b1 _).mono ?_); rintro e w' ⟨rfl, rfl⟩) | (go_at_call 66; (with_reducible refine (digit_any _ _).mono ?_); rintro e w' ⟨rfl, rfl⟩))
                repeat (go_quiet (fail); try go_wp2)
                go_ret2
                exact ⟨by rw [← E.out.1, ← E.out.2]; rfl, by repeat (first | exact hb | apply Bl.drewN | apply Bl.drew)⟩
        · have E := Lib.hid (named_eq t k h1k hk HL.out hall.out (fun a ha => by rw [at_none t k hlt] at ha; cases ha))
          go_wp2
          repeat (go_quiet (fail); try go_wp2)
          go_ret2
          exact ⟨by rw [← E.out.1, ← E.out.2]; rfl, by repeat (first | exact hb | apply Bl.drewN | apply Bl.drew)⟩

/-! ### closures of the scanner -/
def firstB (b : UInt8) : Bool := letterI (b.toNat : Int) || b == 95 || b == 58
def laterB (b : UInt8) : Bool := firstB b || digitI (b.toNat : Int) || b == 46 || b == 45
def bareB (b : UInt8) : Bool := !([32, 9, 10, 34, 39, 61, 60, 62, 96] : List UInt8).contains b

set_option maxHeartbeats 400000 in
theorem first_fn (b : UInt8) (w : World) :
    Calls Tryd.prog 68 #[encB b] w fun e w' => e = .returned (.bool (firstB b)) ∧ w = w' := by
  have h0 : (0 : Int) ≤ (b.toNat : Int) := by omega
  have h1 : (b.toNat : Int) < 256 := by have := b.toNat_lt; omega
  have e : firstB b = (letterI (b.toNat : Int) || ((b.toNat : Int) == 95) || ((b.toNat : Int) == 58)) := by
    rw [eq_of_byte (c := 95) 95 rfl, eq_of_byte (c := 58) 58 rfl]; rfl
  rw [e]
  unfold encB
  clear e
  generalize (b.toNat : Int) = n at *
  cases hl : letterI n with
  | true =>
    go_enter Tryd.func68, Tryd.ntmps68
    go_wp2_with (first | (go_at_call 26; (with_reducible refine (letter_any _ h0 h1 _).mono ?_); rintro e w' ⟨rfl, rfl⟩))
    go_ret
    exact ⟨rfl, rfl⟩
  | false =>
    cases h95 : (n == 95) with
    | true =>
      go_enter Tryd.func68, Tryd.ntmps68
      go_wp2_with (first | (go_at_call 26; (with_reducible refine (letter_any _ h0 h1 _).mono ?_); rintro e w' ⟨rfl, rfl⟩))
      go_ret
      exact ⟨rfl, rfl⟩
    | false =>
      go_enter Tryd.func68, Tryd.ntmps68
      go_wp2_with (first | (go_at_call 26; (with_reducible refine (letter_any _ h0 h1 _).mono ?_); rintro e w' ⟨rfl, rfl⟩))
      go_ret
      exact ⟨rfl, rfl⟩

set_option maxHeartbeats 400000 in
theorem later_fn (b : UInt8) (w : World) :
    Calls Tryd.prog 70 #[encB b] w fun e w' => e = .returned (.bool (laterB b)) ∧ w = w' := by
  have e : laterB b = (firstB b || digitI (b.toNat : Int) || ((b.toNat : Int) == 46) || ((b.toNat : Int) == 45)) := by
    rw [eq_of_byte (c := 46) 46 rfl, eq_of_byte (c := 45) 45 rfl]; rfl
  rw [e]
  have HF := fun W => first_fn b W
  clear e
  unfold encB at *
  obtain ⟨f, hf⟩ : ∃ f, firstB b = f := ⟨_, rfl⟩
  rw [hf] at HF ⊢
  clear hf
  generalize (b.toNat : Int) = n at *
  cases f with
  | true =>
    go_enter Tryd.func70, Tryd.ntmps70
    go_wp2_with (first | (go_at_call 68; (with_reducible refine (HF _).mono ?_); rintro e w' ⟨rfl, rfl⟩))
    go_ret
    exact ⟨rfl, rfl⟩
  | false =>
    cases hd : digitI n with
    | true =>
      go_enter Tryd.func70, Tryd.ntmps70
      go_wp2_with (first | (go_at_call 68; (with_reducible refine (HF _).mono ?_); rintro e w' ⟨rfl, rfl⟩) | (go_at_call 66; (with_reducible refine (digit_any _ _).mono ?_); rintro e w' ⟨rfl, rfl⟩))
      go_ret
      exact ⟨rfl, rfl⟩
    | false =>
      cases h46 : (n == 46) with
      | true =>
        go_enter Tryd.func70, Tryd.ntmps70
        go_wp2_with (first | (go_at_call 68; (with_reducible refine (HF _).mono ?_); rintro e w' ⟨rfl, rfl⟩) | (go_at_call 66; (with_reducible refine (digit_any _ _).mono ?_); rintro e w' ⟨rfl, rfl⟩))
        go_ret
        exact ⟨rfl, rfl⟩
      | false =>
        go_enter Tryd.func70, Tryd.ntmps70
        go_wp2_with (first | (go_at_call 68; (with_reducible refine (HF _).mono ?_); rintro e w' ⟨rfl, rfl⟩) | (go_at_call 66; (with_reducible refine (digit_any _ _).mono ?_); rintro e w' ⟨rfl, rfl⟩))
        go_ret
        exact ⟨rfl, rfl⟩

set_option maxHeartbeats 400000 in
theorem bare_fn (b : UInt8) (w : World) :
    Calls Tryd.prog 88 #[encB b] w fun e w' => e = .returned (.bool (bareB b)) ∧ w = w' := by
  obtain ⟨S, hS⟩ : ∃ S : ByteArray, S = ⟨#[32, 9, 10, 34, 39, 61, 60, 62, 96]⟩ := ⟨_, rfl⟩
  unfold encB
  cases hc : S.data.toList.contains b with
  | true =>
    have HX := fun W => idx_yes S b _ rfl _ hc rfl W
    have e : bareB b = false := by unfold bareB; rw [hS] at hc; rw [show (([32, 9, 10, 34, 39, 61, 60, 62, 96] : List UInt8).contains b) = true from hc]; rfl
    rw [e]
    rw [hS] at HX
    clear e hc hS
    generalize ((⟨#[32, 9, 10, 34, 39, 61, 60, 62, 96]⟩ : ByteArray).data.toList.takeWhile (· != b)).length = j at HX
    go_enter Tryd.func88, Tryd.ntmps88
    go_wp2_with (first | (go_at_call 19; (with_reducible refine (HX _).mono ?_); rintro e w' ⟨rfl, rfl⟩))
    go_ret
    exact ⟨ret_bool (by simp), rfl⟩
  | false =>
    have HX := fun W => idx_no S b _ rfl hc W
    have e : bareB b = true := by unfold bareB; rw [hS] at hc; rw [show (([32, 9, 10, 34, 39, 61, 60, 62, 96] : List UInt8).contains b) = false from hc]; rfl
    rw [e]
    rw [hS] at HX
    clear e hc hS
    go_enter Tryd.func88, Tryd.ntmps88
    go_wp2_with (first | (go_at_call 19; (with_reducible refine (HX _).mono ?_); rintro e w' ⟨rfl, rfl⟩))
    go_ret
    exact ⟨rfl, rfl⟩

theorem fnB_later (w : World) : FnB 70 #[] laterB w := ⟨fun W b _ => later_fn b W⟩
theorem fnB_bare (w : World) : FnB 88 #[] bareB w := ⟨fun W b _ => bare_fn b W⟩

/-! ### while -/
def dropT (p : UInt8 → Bool) (t : ByteArray) : ByteArray := mkB (t.data.toList.dropWhile p)

set_option maxHeartbeats 1000000 in
theorem while_any (w0 w : World) (g : Nat) (t : ByteArray) (f : Nat) (p : UInt8 → Bool) (hs : t.size ≤ 1000000) (hI : St w0 w g t) (hp : FnB f #[] p w)
    (eg : ∀ args w, (callFunc f args).run Tryd.prog w = .ok (.enter f args) w) :
    Calls Tryd.prog 69 #[.pointer (some ⟨g, 0, none⟩), .func (.func f) #[] #[]] w fun e w' =>
      e = .returned (.bool (decide ((dropT p t).size < t.size))) ∧ St w0 w' g (dropT p t) := by
  go_enter Tryd.func69, Tryd.ntmps69
  go_wp2
  go_loopw [5] (fun i wr => ∃ k : Nat, k ≤ t.size ∧ i = .int .i64 k ∧ Bl w wr ∧ Hid ((t.data.toList.take k).all p = true)) (fun i _ => t.size - (intOf i).toNat)
  case atStart => exact ⟨0, Nat.zero_le _, rfl, Bl.refl _, Lib.hid (by simp)⟩
  case round =>
    obtain ⟨k, hk, rfl, hb, hall⟩ := hrel
    have h1 := hI.more hb
    have hc := h1.cell
    have hf := h1.free
    by_cases hlt : k < t.size
    · have hfn : Calls Tryd.prog f #[.int .u8 (t[k].toNat : Int)] wr fun e w' => e = .returned (.bool (p t[k])) ∧ wr = w' := hp.out wr t[k] hb
      have HK := Lib.hid (take_succ_all t p k hlt)
      have AT := Lib.hid (at_some t k hlt)
      cases hpk : p t[k] with
      | true =>
        rw [hpk] at hfn
        have P := Lib.hid hpk
        clear hpk
        go_wp2_with (first | (go_at_fn f; (with_reducible refine hfn.mono ?_); rintro e w' ⟨rfl, rfl⟩))
        go_roundw
        case rel => exact ⟨k + 1, by omega, by go_num, hb, Lib.hid (by rw [HK.out, hall.out, P.out]; rfl)⟩
        case measure => simp [intOf]; omega
      | false =>
        rw [hpk] at hfn
        have P := Lib.hid hpk
        have E : t.data.toList.dropWhile p = t.data.toList.drop k := dropWhile_stop p t.data.toList k (by rw [size_len]; exact hk) hall.out (fun a ha => by rw [Option.some.inj (ha.symm.trans AT.out)]; exact hpk)
        have E2 : t.extract k t.size = dropT p t := by refine str_eq ?_; rw [Lib.extract_to_end, dropT, mkB_data, E]
        have S := Lib.hid (h1.set (dropT p t))
        have Z : (dropT p t).size = t.size - k := by unfold dropT; rw [E, mkB_size, List.length_drop, size_len]
        have ZH := Lib.hid Z
        clear hpk E Z
        go_wp2_with (first | (go_at_fn f; (with_reducible refine hfn.mono ?_); rintro e w' ⟨rfl, rfl⟩))
        go_ret
        exact ⟨ret_bool (by rw [ZH.out]; simp; omega), S.out⟩
    · have E : t.data.toList.dropWhile p = t.data.toList.drop k := dropWhile_stop p t.data.toList k (by rw [size_len]; exact hk) hall.out (fun a ha => by rw [at_none t k hlt] at ha; cases ha)
      have E2 : t.extract k t.size = dropT p t := by refine str_eq ?_; rw [Lib.extract_to_end, dropT, mkB_data, E]
      have S := Lib.hid (h1.set (dropT p t))
      have Z : (dropT p t).size = t.size - k := by unfold dropT; rw [E, mkB_size, List.length_drop, size_len]
      have ZH := Lib.hid Z
      clear E Z
      go_wp2
      go_ret
      exact ⟨ret_bool (by rw [ZH.out]; simp; omega), S.out⟩

end Go.Proofs.YtgamlckdjfjobaaDoor
