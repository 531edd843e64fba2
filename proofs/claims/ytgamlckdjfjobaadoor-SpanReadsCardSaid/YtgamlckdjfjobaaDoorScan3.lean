/- The scanner's value, attribute, attributes. -/
import Derived.Test.YtgamlckdjfjobaaDoorScan2
import Derived.Lib.SlBytesConst
namespace Go.Proofs.YtgamlckdjfjobaaDoor
open Go.RowKit

/-- What a value leaves, and whether there is one. -/
def valueL (l : List UInt8) : Bool × List UInt8 :=
  if l.headD 0 == 34 then (if l.tail.contains 34 then (true, (l.tail.dropWhile (· != 34)).tail) else (false, l.tail))
  else if l.headD 0 == 39 then (if l.tail.contains 39 then (true, (l.tail.dropWhile (· != 39)).tail) else (false, l.tail))
  else (decide ((l.dropWhile bareB).length < l.length), l.dropWhile bareB)
def valueOk (t : ByteArray) : Bool := (valueL t.data.toList).1
def valueT (t : ByteArray) : ByteArray := mkB (valueL t.data.toList).2

theorem cell_marked {w : World} {B i : Nat} {cs : Array Value} {t : TypeId} {fr : Nat × Nat} (h : w.heap[B]? = some (.cells cs t fr)) : w.cell? ⟨B, i, none⟩ = cs[i]? := cell_of_row w B i cs t fr h

theorem alloc_new (w : World) (o : Obj) : (w.alloc o).heap[w.heap.size]? = some o := by
  show (w.heap.push o)[w.heap.size]? = _
  simp
structure NoQ (t : ByteArray) (k : Nat) : Prop where
  a : 1 ≤ k → (t.data.toList.headD 0 == 34) = false
  b : 2 ≤ k → (t.data.toList.headD 0 == 39) = false
theorem value_q1 (t : ByteArray) (h : (t.data.toList.headD 0 == 34) = true) : valueOk t = (tailB t).data.toList.contains 34 ∧ valueT t = (if (tailB t).data.toList.contains 34 then afterB 34 (tailB t) else tailB t) := by
  unfold valueOk valueT valueL
  rw [if_pos h, show (tailB t).data.toList = t.data.toList.tail from rfl]
  split <;> rename_i hc
  · exact ⟨hc.symm, rfl⟩
  · exact ⟨by simpa using hc, rfl⟩
theorem value_q2 (t : ByteArray) (h0 : (t.data.toList.headD 0 == 34) = false) (h : (t.data.toList.headD 0 == 39) = true) : valueOk t = (tailB t).data.toList.contains 39 ∧ valueT t = (if (tailB t).data.toList.contains 39 then afterB 39 (tailB t) else tailB t) := by
  unfold valueOk valueT valueL
  rw [if_neg (by rw [h0]; decide), if_pos h, show (tailB t).data.toList = t.data.toList.tail from rfl]
  split <;> rename_i hc
  · exact ⟨hc.symm, rfl⟩
  · exact ⟨by simpa using hc, rfl⟩
theorem value_q3 (t : ByteArray) (h0 : (t.data.toList.headD 0 == 34) = false) (h : (t.data.toList.headD 0 == 39) = false) : valueOk t = decide ((dropT bareB t).size < t.size) ∧ valueT t = dropT bareB t := by
  unfold valueOk valueT valueL
  rw [if_neg (by rw [h0]; decide), if_neg (by rw [h]; decide)]
  exact ⟨by unfold dropT; rw [mkB_size, ← size_len], rfl⟩

set_option maxHeartbeats 1000000 in
theorem value_any (w0 w : World) (g : Nat) (t : ByteArray) (hs : t.size ≤ 1000000) (hI : St w0 w g t) :
    Calls Tryd.prog 71 #[.pointer (some ⟨g, 0, none⟩)] w fun e w' => e = .returned (.bool (valueOk t)) ∧ St w0 w' g (valueT t) := by
  have eg := enters_of Tryd.func88 (by kernel_rfl) rfl
  have kc := fun (w : World) (C : Array Value) (n c : Nat) => Lib.run_convert_bytes_const (P := Tryd.prog) w 33 5 C n c Tryd.underlying33 Tryd.underlying5
  have hgw := hI.lt
  have HI := Lib.hid hI
  go_enter Tryd.func71, Tryd.ntmps71
  go_wp2
  clear kc
  go_loopw [8] (fun i wr => ∃ k : Nat, k ≤ 2 ∧ i = .int .i64 k ∧ St w0 wr g t ∧ wr.heap[w.heap.size]? = some (.cells #[.int .u8 34, .int .u8 39] 5 (2, 3)) ∧ NoQ t k) (fun i _ => 2 - (intOf i).toNat)
  case atStart => exact ⟨0, by omega, rfl, hI.more ((Bl.refl w).alloc _), alloc_new _ _, ⟨by omega, by omega⟩⟩
  case round =>
    obtain ⟨k, hk, rfl, hS, hrow, hno⟩ := hrel
    have c0 : wr.cell? ⟨w.heap.size, 0, none⟩ = some (.int .u8 34) := cell_marked hrow
    have c1 : wr.cell? ⟨w.heap.size, 1, none⟩ = some (.int .u8 39) := cell_marked hrow
    have hgr : w.heap.size ≠ g := by omega
    by_cases h0 : k = 0
    · subst h0
      cases h34 : (t.data.toList.headD 0 == 34) with
      | true =>
        have HV := Lib.hid (value_q1 t h34)
        have H1 := sign_yes w0 wr g t 34 (by decide) 34 rfl hS h34
        have tz : (tailB t).size ≤ 1000000 := by unfold tailB; rw [mkB_size, List.length_tail, size_len]; omega
        clear h34 hno
        go_wp2_with fail
        refine H1.mono ?_
        rintro e w1 ⟨rfl, hS1, hO1⟩
        have H2 := quoted_any w0 w1 g (tailB t) 34 34 rfl tz hS1
        rw [← HV.out.2, ← HV.out.1] at H2
        clear H1 hS1 hO1 c0 c1
        go_wp2_with fail
        refine H2.mono ?_
        rintro e w2 ⟨rfl, hS2⟩
        go_wp2
        go_ret
        exact ⟨rfl, hS2⟩
      | false =>
        have H1 := sign_no w0 wr g t 34 34 rfl hS h34
        have HN := Lib.hid h34
        clear h34
        go_wp2_with (first | (go_at_call 45; (with_reducible refine H1.mono ?_); rintro e w1 ⟨rfl, hS1, hO1⟩))
        go_roundw
        case rel => exact ⟨1, by omega, rfl, hS1, hO1.row hrow hgr, ⟨fun _ => HN.out, by omega⟩⟩
        case measure => simp [intOf]
    · by_cases h1 : k = 1
      · subst h1
        have hn0 := hno.a (by omega)
        cases h39 : (t.data.toList.headD 0 == 39) with
        | true =>
          have HV := Lib.hid (value_q2 t hn0 h39)
          have H1 := sign_yes w0 wr g t 39 (by decide) 39 rfl hS h39
          have tz : (tailB t).size ≤ 1000000 := by unfold tailB; rw [mkB_size, List.length_tail, size_len]; omega
          clear h39 hno hn0
          go_wp2_with fail
          refine H1.mono ?_
          rintro e w1 ⟨rfl, hS1, hO1⟩
          have H2 := quoted_any w0 w1 g (tailB t) 39 39 rfl tz hS1
          rw [← HV.out.2, ← HV.out.1] at H2
          clear H1 hS1 hO1 c0 c1
          go_wp2_with fail
          refine H2.mono ?_
          rintro e w2 ⟨rfl, hS2⟩
          go_wp2
          go_ret
          exact ⟨rfl, hS2⟩
        | false =>
          have H1 := sign_no w0 wr g t 39 39 rfl hS h39
          have HN := Lib.hid h39
          have HN0 := Lib.hid hn0
          clear h39 hn0
          go_wp2_with (first | (go_at_call 45; (with_reducible refine H1.mono ?_); rintro e w1 ⟨rfl, hS1, hO1⟩))
          go_roundw
          case rel => exact ⟨2, by omega, rfl, hS1, hO1.row hrow hgr, ⟨fun _ => HN0.out, fun _ => HN.out⟩⟩
          case measure => simp [intOf]
      · obtain rfl : k = 2 := by omega
        have HV := Lib.hid (value_q3 t (hno.a (by omega)) (hno.b (by omega)))
        have H2 := while_any w0 wr g t 88 bareB hs hS (fnB_bare wr) eg
        rw [← HV.out.1, ← HV.out.2] at H2
        go_wp2_with (first | (go_at_call 69; (with_reducible refine H2.mono ?_); rintro e w1 ⟨rfl, hS1⟩))
        go_ret
        exact ⟨rfl, hS1⟩

/-! ### attribute -/
def whiteL (l : List UInt8) : List UInt8 := cutL whiteS l
/-- Is there an attribute, is it whole, and what is left. -/
def attributeL (l : List UInt8) : Bool × Bool × List UInt8 :=
  if (whiteL l).length < l.length ∧ firstB ((whiteL l).headD 0) = true then
    if (whiteL ((whiteL l).dropWhile laterB)).headD 0 == 61 then (true, valueL (whiteL (whiteL ((whiteL l).dropWhile laterB)).tail))
    else (true, true, (whiteL l).dropWhile laterB)
  else (false, true, l)
def attrIs (t : ByteArray) : Bool := (attributeL t.data.toList).1
def attrWhole (t : ByteArray) : Bool := (attributeL t.data.toList).2.1
def attrT (t : ByteArray) : ByteArray := mkB (attributeL t.data.toList).2.2

theorem attr_no (t : ByteArray) (h : ¬ ((whiteT t).size < t.size ∧ firstB ((whiteT t).data.toList.headD 0) = true)) : attrIs t = false ∧ attrWhole t = true ∧ attrT t = t := by
  have hw : (whiteT t).size = (whiteL t.data.toList).length := mkB_size _
  rw [hw, ← size_len] at h
  have h' : ¬ ((whiteL t.data.toList).length < t.data.toList.length ∧ firstB ((whiteL t.data.toList).headD 0) = true) := h
  unfold attrIs attrWhole attrT attributeL
  rw [if_neg h']
  exact ⟨rfl, rfl, mkB_self t⟩
theorem attr_bare (t : ByteArray) (h : (whiteT t).size < t.size) (h1 : firstB ((whiteT t).data.toList.headD 0) = true) (h2 : ((whiteT (dropT laterB (whiteT t))).data.toList.headD 0 == 61) = false) :
    attrIs t = true ∧ attrWhole t = true ∧ attrT t = dropT laterB (whiteT t) := by
  have hw : (whiteT t).size = (whiteL t.data.toList).length := mkB_size _
  rw [hw, ← size_len] at h
  unfold attrIs attrWhole attrT attributeL
  rw [if_pos ⟨h, h1⟩, if_neg (by rw [show whiteL ((whiteL t.data.toList).dropWhile laterB) = (whiteT (dropT laterB (whiteT t))).data.toList from rfl, h2]; decide)]
  exact ⟨rfl, rfl, rfl⟩
theorem attr_value (t : ByteArray) (h : (whiteT t).size < t.size) (h1 : firstB ((whiteT t).data.toList.headD 0) = true) (h2 : ((whiteT (dropT laterB (whiteT t))).data.toList.headD 0 == 61) = true) :
    attrIs t = true ∧ attrWhole t = valueOk (whiteT (tailB (whiteT (dropT laterB (whiteT t))))) ∧ attrT t = valueT (whiteT (tailB (whiteT (dropT laterB (whiteT t))))) := by
  have hw : (whiteT t).size = (whiteL t.data.toList).length := mkB_size _
  rw [hw, ← size_len] at h
  unfold attrIs attrWhole attrT attributeL
  rw [if_pos ⟨h, h1⟩, if_pos (by rw [show whiteL ((whiteL t.data.toList).dropWhile laterB) = (whiteT (dropT laterB (whiteT t))).data.toList from rfl, h2])]
  exact ⟨rfl, rfl, rfl⟩
theorem whiteT_le (t : ByteArray) : (whiteT t).size ≤ t.size := by
  unfold whiteT; rw [mkB_size, ← size_len]; exact cutL_le _ _
theorem dropT_le (p : UInt8 → Bool) (t : ByteArray) : (dropT p t).size ≤ t.size := by
  unfold dropT; rw [mkB_size, ← size_len]; exact (List.dropWhile_sublist _).length_le
theorem tailB_le (t : ByteArray) : (tailB t).size ≤ t.size := by
  unfold tailB; rw [mkB_size, List.length_tail, size_len]; omega

set_option maxHeartbeats 1000000 in
theorem attribute_any (w0 w : World) (g : Nat) (t : ByteArray) (hs : t.size ≤ 1000000) (hI : St w0 w g t) :
    Calls Tryd.prog 48 #[.pointer (some ⟨g, 0, none⟩)] w fun e w' => e = .returned (.tuple #[.bool (attrIs t), .bool (attrWhole t)]) ∧ St w0 w' g (attrT t) := by
  have eg := enters_of Tryd.func70 (by kernel_rfl) rfl
  have HW := white_any w0 w g t hs hI
  have hz := whiteT_le t
  have hc := hI.cell
  by_cases h : (whiteT t).size < t.size
  · cases h1 : firstB ((whiteT t).data.toList.headD 0) with
    | false =>
      have R := Lib.hid (attr_no t (fun x => by rw [h1] at x; exact absurd x.2 (by decide)))
      rw [decide_eq_true h] at HW
      obtain ⟨u, hu⟩ : ∃ u, whiteT t = u := ⟨_, rfl⟩
      rw [hu] at HW h1 hz
      clear hu h
      rcases Nat.eq_zero_or_pos u.size with e0 | hp
      · obtain rfl := str_nil e0
        clear h1
        go_enter Tryd.func48, Tryd.ntmps48
        go_wp2_with fail
        refine HW.mono ?_
        rintro e w1 ⟨rfl, hS1⟩
        have hc1 := hS1.cell
        have hf1 := hS1.free
        have S := Lib.hid (hS1.set t)
        clear hS1 HW
        go_wp2
        go_ret2
        exact ⟨by rw [R.out.1, R.out.2.1]; rfl, by rw [R.out.2.2]; exact S.out⟩
      · have e1 := isEmpty_false hp
        have HF : ∀ W, Calls Tryd.prog 68 #[.int .u8 (u[0].toNat : Int)] W fun e w' => e = .returned (.bool false) ∧ W = w' := by
          intro W; have := first_fn u[0] W; rw [← headD_at u hp, h1] at this; rw [← headD_at u hp]; exact this
        clear h1
        go_enter Tryd.func48, Tryd.ntmps48
        go_wp2_with fail
        refine HW.mono ?_
        rintro e w1 ⟨rfl, hS1⟩
        have hc1 := hS1.cell
        have hf1 := hS1.free
        have S := Lib.hid (hS1.set t)
        clear hS1 HW
        go_wp2_with (first | (go_at_call 68; (with_reducible refine (HF _).mono ?_); rintro e w' ⟨rfl, rfl⟩))
        go_ret2
        exact ⟨by rw [R.out.1, R.out.2.1]; rfl, by rw [R.out.2.2]; exact S.out⟩
    | true =>
      have R2 := Lib.hid (attr_bare t h h1)
      have R3 := Lib.hid (attr_value t h h1)
      rw [decide_eq_true h] at HW
      obtain ⟨u, hu⟩ : ∃ u, whiteT t = u := ⟨_, rfl⟩
      rw [hu] at HW h1 hz R2 R3
      clear hu h
      have hp : 0 < u.size := by
        rcases Nat.eq_zero_or_pos u.size with e0 | hp
        · obtain rfl := str_nil e0; exact absurd h1 (by decide)
        · exact hp
      have e1 := isEmpty_false hp
      have HF : ∀ W, Calls Tryd.prog 68 #[.int .u8 (u[0].toNat : Int)] W fun e w' => e = .returned (.bool true) ∧ W = w' := by
        intro W; have := first_fn u[0] W; rw [← headD_at u hp, h1] at this; rw [← headD_at u hp]; exact this
      clear h1
      have hv : (dropT laterB u).size ≤ 1000000 := by have := dropT_le laterB u; omega
      have HB := fun W0 W hS => while_any W0 W g u 70 laterB (by omega) hS (fnB_later W) eg
      obtain ⟨v, hvv⟩ : ∃ v, dropT laterB u = v := ⟨_, rfl⟩
      rw [hvv] at HB hv R2 R3
      clear hvv
      have hx := whiteT_le v
      have HW2 := fun W hS => white_any w0 W g v hv hS
      obtain ⟨x, hxx⟩ : ∃ x, whiteT v = x := ⟨_, rfl⟩
      rw [hxx] at hx HW2 R2 R3
      clear hxx
      cases h61 : (x.data.toList.headD 0 == 61) with
      | false =>
        have R := Lib.hid (R2.out h61)
        have H61 := Lib.hid h61
        clear R2 R3 h61
        go_enter Tryd.func48, Tryd.ntmps48
        go_wp2_with fail
        refine HW.mono ?_
        rintro e w1 ⟨rfl, hS1⟩
        have hc1 := hS1.cell
        have S1 := Lib.hid hS1
        clear hS1 HW
        go_wp2_with (first | (go_at_call 68; (with_reducible refine (HF _).mono ?_); rintro e w' ⟨rfl, rfl⟩) | (go_at_call 69; fail))
        refine (HB w0 _ S1.out).mono ?_
        rintro e w2 ⟨rfl, hS2⟩
        have hc2 := hS2.cell
        have HW3 := HW2 _ hS2
        clear hS2 HW2 HB
        go_wp2_with fail
        refine HW3.mono ?_
        rintro e w3 ⟨rfl, hS3⟩
        have HN := sign_no w0 w3 g x 61 61 rfl hS3 H61.out
        clear hS3 HW3
        go_wp2_with fail
        refine HN.mono ?_
        rintro e w4 ⟨rfl, hS4, _⟩
        have hc4 := hS4.cell
        have hf4 := hS4.free
        have S := Lib.hid (hS4.set v)
        clear hS4 HN
        go_wp2
        go_ret2
        exact ⟨by rw [R.out.1, R.out.2.1]; rfl, by rw [R.out.2.2]; exact S.out⟩
      | true =>
        have R := Lib.hid (R3.out h61)
        have H61 := Lib.hid h61
        clear R2 R3 h61
        have hy := tailB_le x
        obtain ⟨y, hyy⟩ : ∃ y, tailB x = y := ⟨_, rfl⟩
        rw [hyy] at R hy
        have hzz := whiteT_le y
        have HW4 := fun W hS => white_any w0 W g y (by omega) hS
        obtain ⟨z, hz2⟩ : ∃ z, whiteT y = z := ⟨_, rfl⟩
        rw [hz2] at R hzz HW4
        have Y := Lib.hid hyy
        clear hyy hz2
        go_enter Tryd.func48, Tryd.ntmps48
        go_wp2_with fail
        refine HW.mono ?_
        rintro e w1 ⟨rfl, hS1⟩
        have hc1 := hS1.cell
        have S1 := Lib.hid hS1
        clear hS1 HW
        go_wp2_with (first | (go_at_call 68; (with_reducible refine (HF _).mono ?_); rintro e w' ⟨rfl, rfl⟩) | (go_at_call 69; fail))
        refine (HB w0 _ S1.out).mono ?_
        rintro e w2 ⟨rfl, hS2⟩
        have hc2 := hS2.cell
        have HW3 := HW2 _ hS2
        clear hS2 HW2 HB
        go_wp2_with fail
        refine HW3.mono ?_
        rintro e w3 ⟨rfl, hS3⟩
        have HN := sign_yes w0 w3 g x 61 (by decide) 61 rfl hS3 H61.out
        rw [Y.out] at HN
        clear hS3 HW3
        go_wp2_with fail
        refine HN.mono ?_
        rintro e w4 ⟨rfl, hS4, _⟩
        have HW5 := HW4 _ hS4
        clear hS4 HN HW4
        go_wp2_with fail
        refine HW5.mono ?_
        rintro e w5 ⟨rfl, hS5⟩
        have HV := value_any w0 w5 g z (by omega) hS5
        clear hS5 HW5
        go_wp2_with fail
        refine HV.mono ?_
        rintro e w6 ⟨rfl, hS6⟩
        clear HV
        go_wp2
        go_ret2
        exact ⟨by rw [R.out.1, R.out.2.1]; rfl, by rw [R.out.2.2]; exact hS6⟩
  · have R := Lib.hid (attr_no t (fun x => h x.1))
    rw [decide_eq_false h] at HW
    obtain ⟨u, hu⟩ : ∃ u, whiteT t = u := ⟨_, rfl⟩
    rw [hu] at HW hz
    clear hu h
    go_enter Tryd.func48, Tryd.ntmps48
    go_wp2_with fail
    refine HW.mono ?_
    rintro e w1 ⟨rfl, hS1⟩
    have hc1 := hS1.cell
    have hf1 := hS1.free
    have S := Lib.hid (hS1.set t)
    clear hS1 HW
    go_wp2
    go_ret2
    exact ⟨by rw [R.out.1, R.out.2.1]; rfl, by rw [R.out.2.2]; exact S.out⟩

end Go.Proofs.YtgamlckdjfjobaaDoor
