/- The contract of scan.Tag. -/
import Derived.Test.YtgamlckdjfjobaaDoorScan4
namespace Go.Proofs.YtgamlckdjfjobaaDoor
open Go.RowKit

/-- What is left where a tag's last byte should stand. -/
def tagEnd (closing : Bool) (l : List UInt8) : List UInt8 := if !closing && (whiteL l).headD 0 == 47 then (whiteL l).tail else whiteL l
/-- The text behind "<" or "</", and whether it was "</". -/
def tagHead (l : List UInt8) : Bool × List UInt8 := if l.headD 0 == 47 then (true, l.tail) else (false, l)
/-- Behind the name: are the attributes whole, and what is left. -/
def tagMid (closing : Bool) (l : List UInt8) : Bool × List UInt8 := if closing then (true, l) else attrsL (l.length + 1) l
def tagRest (l : List UInt8) : Option (List UInt8) :=
  if l.headD 0 == 60 then
    if (namedL (tagHead l.tail).2).1.isEmpty then none
    else if (tagMid (tagHead l.tail).1 (namedL (tagHead l.tail).2).2).1 then
      if (tagEnd (tagHead l.tail).1 (tagMid (tagHead l.tail).1 (namedL (tagHead l.tail).2).2).2).headD 0 == 62 then
        some (tagEnd (tagHead l.tail).1 (tagMid (tagHead l.tail).1 (namedL (tagHead l.tail).2).2).2).tail
      else none
    else none
  else none
/-- How long a tag is. -/
def tagL (l : List UInt8) : Nat := match tagRest l with
  | none => 0
  | some r => l.length - r.length

theorem namedL_le (l : List UInt8) : (namedL l).2.length ≤ l.length := by
  unfold namedL
  split
  · have := (List.dropWhile_sublist nameB (l := l.tail)).length_le
    simp only [List.length_tail] at this ⊢; omega
  · exact Nat.le_refl _
theorem attributeL_le (l : List UInt8) : (attributeL l).2.2.length ≤ l.length := by
  cases h : (attributeL l).1 with
  | true => exact Nat.le_of_lt (attributeL_lt l h)
  | false =>
    unfold attributeL at *
    split
    · rename_i h1
      rw [if_pos h1] at h
      split at h <;> cases h
    · exact Nat.le_refl _
theorem attrsL_le : ∀ (f : Nat) (l : List UInt8), (attrsL f l).2.length ≤ l.length
  | 0, l => Nat.le_refl _
  | f + 1, l => by
    unfold attrsL
    split
    · exact Nat.le_trans (attrsL_le f _) (attributeL_le l)
    · exact attributeL_le l

set_option maxHeartbeats 2000000 in
theorem tag_any (s : ByteArray) (w : World) (hs : s.size ≤ 1000000) :
    Calls Tryd.prog 25 #[.string s] w fun e w' => e = .returned (.int .i64 (tagL s.data.toList)) ∧ Bl w w' := by
  have hst : St w (w.alloc (.cells #[.string s] 48)) w.heap.size s := ⟨alloc_new _ _, Nat.le_refl _, (Bl.refl w).alloc _⟩
  cases h60 : (s.data.toList.headD 0 == 60) with
  | false =>
    have HN := sign_no w _ _ s 60 60 rfl hst h60
    have R := Lib.hid (show tagL s.data.toList = 0 by unfold tagL tagRest; rw [if_neg (by rw [h60]; decide)])
    clear h60 hst
    go_enter Tryd.func25, Tryd.ntmps25
    go_wp2_with fail
    refine HN.mono ?_
    rintro e w1 ⟨rfl, hS1, _⟩
    have hb := hS1.bl
    clear hS1 HN
    go_wp2
    go_ret
    exact ⟨ret_int (by rw [R.out]; rfl), hb⟩
  | true =>
    have HN := sign_yes w _ _ s 60 (by decide) 60 rfl hst h60
    have hz1 := tailB_le s
    have hz2 := tailB_le (tailB s)
    have RT2 : tagRest s.data.toList = tagRest s.data.toList := rfl
    conv at RT2 => rhs; rw [tagRest, if_pos h60]
    have RT := Lib.hid RT2
    clear RT2
    obtain ⟨t1, ht1⟩ : ∃ t1, tailB s = t1 := ⟨_, rfl⟩
    have hd1 : s.data.toList.tail = t1.data.toList := by rw [← ht1]; rfl
    rw [ht1] at HN hz1 hz2
    rw [hd1] at RT
    clear h60 hst hd1 ht1
    cases h47 : (t1.data.toList.headD 0 == 47) with
    | true =>
      obtain ⟨t2, ht2⟩ : ∃ t2, tailB t1 = t2 := ⟨_, rfl⟩
      have HH : tagHead t1.data.toList = (true, t2.data.toList) := by unfold tagHead; rw [if_pos h47, ← ht2]; rfl
      rw [ht2] at hz2
      have T2 := Lib.hid ht2
      clear ht2
      rw [HH] at RT
      have H47 := Lib.hid h47
      clear h47 HH
      have HNM := fun W => named_any t2 W (by omega)
      have hzr : (restT t2).size ≤ t2.size := by unfold restT; rw [mkB_size, ← size_len]; exact namedL_le _
      obtain ⟨r, hr⟩ : ∃ r, restT t2 = r := ⟨_, rfl⟩
      obtain ⟨n, hn⟩ : ∃ n, nameT t2 = n := ⟨_, rfl⟩
      have hr2 : (namedL t2.data.toList).2 = r.data.toList := by rw [← hr]; rfl
      have hn2 : (namedL t2.data.toList).1 = n.data.toList := by rw [← hn]; rfl
      rw [hr, hn] at HNM
      rw [hr] at hzr
      rw [hr2, hn2] at RT
      clear hr hn hr2 hn2
      rcases Nat.eq_zero_or_pos n.size with e0 | hp
      · obtain rfl := str_nil e0
        have R := Lib.hid (show tagL s.data.toList = 0 by unfold tagL; rw [show tagRest s.data.toList = none from RT.out.trans (if_pos rfl)])
        clear e0
        go_enter Tryd.func25, Tryd.ntmps25
        go_wp2_with fail
        refine HN.mono ?_
        rintro e w1 ⟨rfl, hS1, _⟩
        have H2 := sign_yes w w1 _ t1 47 (by decide) 47 rfl hS1 H47.out
        rw [T2.out] at H2
        clear hS1 HN
        go_wp2_with fail
        refine H2.mono ?_
        rintro e w2 ⟨rfl, hS2, _⟩
        have hc2 := hS2.cell
        have S2 := Lib.hid hS2
        clear hS2 H2
        go_wp2_with fail
        refine (HNM _).mono ?_
        rintro e w3 ⟨rfl, hb3⟩
        have hS3 := S2.out.more hb3
        have hc3 := hS3.cell
        have hf3 := hS3.free
        have S3 := Lib.hid (hS3.set r)
        clear hS3 HNM
        go_wp2
        go_ret
        exact ⟨ret_int (by rw [R.out]; rfl), S3.out.bl⟩
      · have e1 := isEmpty_false hp
        have e2 := data_isEmpty_false hp
        have RU := RT.out
        rw [if_neg (show ¬ n.data.toList.isEmpty = true by rw [e2]; decide)] at RU
        clear RT
        have RT := Lib.hid RU
        clear RU e2
        have RU := RT.out
        rw [show tagMid true r.data.toList = (true, r.data.toList) from rfl, if_pos rfl] at RU
        clear RT
        have HWH := fun W hS => white_any w W w.heap.size r (by omega) hS
        obtain ⟨x, hx⟩ : ∃ x, whiteT r = x := ⟨_, rfl⟩
        rw [hx] at HWH
        have hx2 : tagEnd true r.data.toList = x.data.toList := by rw [← hx]; rfl
        rw [show ((true, r.data.toList) : Bool × List UInt8).2 = r.data.toList from rfl, hx2] at RU
        have hxz : x.size ≤ r.size := by rw [← hx]; exact whiteT_le r
        clear hx hx2
        cases h62 : (x.data.toList.headD 0 == 62) with
        | true =>
          rw [if_pos h62] at RU
          have HGT := fun W hS => sign_yes w W w.heap.size x 62 (by decide) 62 rfl hS h62
          obtain ⟨y, hy⟩ : ∃ y, tailB x = y := ⟨_, rfl⟩
          have hyz : y.size ≤ x.size := by rw [← hy]; exact tailB_le x
          have R := Lib.hid (show (tagL s.data.toList : Int) = (s.size : Int) - (y.size : Int) by
            unfold tagL; rw [RU, show x.data.toList.tail = y.data.toList by rw [← hy]; rfl]
            simp only [size_len]; omega)
          rw [hy] at HGT
          clear hy RU h62
          go_enter Tryd.func25, Tryd.ntmps25
          go_wp2_with fail
          refine HN.mono ?_
          rintro e w1 ⟨rfl, hS1, _⟩
          have H2 := sign_yes w w1 _ t1 47 (by decide) 47 rfl hS1 H47.out
          rw [T2.out] at H2
          clear hS1 HN
          go_wp2_with fail
          refine H2.mono ?_
          rintro e w2 ⟨rfl, hS2, _⟩
          have hc2 := hS2.cell
          have S2 := Lib.hid hS2
          clear hS2 H2
          go_wp2_with fail
          refine (HNM _).mono ?_
          rintro e w3 ⟨rfl, hb3⟩
          have hS3 := S2.out.more hb3
          have hc3 := hS3.cell
          have hf3 := hS3.free
          have S3 := Lib.hid (hS3.set r)
          clear hS3 HNM
          go_wp2_with fail
          refine (HWH _ S3.out).mono ?_
          rintro e w5 ⟨rfl, hS5⟩
          have S5 := Lib.hid hS5
          clear hS5 HWH
          go_wp2_with fail
          refine (HGT _ S5.out).mono ?_
          rintro e w7 ⟨rfl, hS7, _⟩
          have hc7 := hS7.cell
          have hb7 := hS7.bl
          clear hS7 HGT
          go_wp2
          go_ret
          exact ⟨ret_int (by rw [R.out]; try omega), hb7⟩
        | false =>
          rw [if_neg (by rw [h62]; decide)] at RU
          have HGT := fun W hS => sign_no w W w.heap.size x 62 62 rfl hS h62
          have R := Lib.hid (show tagL s.data.toList = 0 by unfold tagL; rw [RU])
          clear RU h62
          go_enter Tryd.func25, Tryd.ntmps25
          go_wp2_with fail
          refine HN.mono ?_
          rintro e w1 ⟨rfl, hS1, _⟩
          have H2 := sign_yes w w1 _ t1 47 (by decide) 47 rfl hS1 H47.out
          rw [T2.out] at H2
          clear hS1 HN
          go_wp2_with fail
          refine H2.mono ?_
          rintro e w2 ⟨rfl, hS2, _⟩
          have hc2 := hS2.cell
          have S2 := Lib.hid hS2
          clear hS2 H2
          go_wp2_with fail
          refine (HNM _).mono ?_
          rintro e w3 ⟨rfl, hb3⟩
          have hS3 := S2.out.more hb3
          have hc3 := hS3.cell
          have hf3 := hS3.free
          have S3 := Lib.hid (hS3.set r)
          clear hS3 HNM
          go_wp2_with fail
          refine (HWH _ S3.out).mono ?_
          rintro e w5 ⟨rfl, hS5⟩
          have S5 := Lib.hid hS5
          clear hS5 HWH
          go_wp2_with fail
          refine (HGT _ S5.out).mono ?_
          rintro e w7 ⟨rfl, hS7, _⟩
          have hc7 := hS7.cell
          have hb7 := hS7.bl
          clear hS7 HGT
          go_wp2
          go_ret
          exact ⟨ret_int (by rw [R.out]; rfl), hb7⟩
    | false =>
      obtain ⟨t2, ht2⟩ : ∃ t2, t1 = t2 := ⟨_, rfl⟩
      subst ht2
      have HH : tagHead t1.data.toList = (false, t1.data.toList) := by unfold tagHead; rw [if_neg (by rw [h47]; decide)]
      rw [HH] at RT
      have H47 := Lib.hid h47
      clear h47 HH
      have HNM := fun W => named_any t1 W (by omega)
      have hzr : (restT t1).size ≤ t1.size := by unfold restT; rw [mkB_size, ← size_len]; exact namedL_le _
      obtain ⟨r, hr⟩ : ∃ r, restT t1 = r := ⟨_, rfl⟩
      obtain ⟨n, hn⟩ : ∃ n, nameT t1 = n := ⟨_, rfl⟩
      have hr2 : (namedL t1.data.toList).2 = r.data.toList := by rw [← hr]; rfl
      have hn2 : (namedL t1.data.toList).1 = n.data.toList := by rw [← hn]; rfl
      rw [hr, hn] at HNM
      rw [hr] at hzr
      rw [hr2, hn2] at RT
      clear hr hn hr2 hn2
      rcases Nat.eq_zero_or_pos n.size with e0 | hp
      · obtain rfl := str_nil e0
        have R := Lib.hid (show tagL s.data.toList = 0 by unfold tagL; rw [show tagRest s.data.toList = none from RT.out.trans (if_pos rfl)])
        clear e0
        go_enter Tryd.func25, Tryd.ntmps25
        go_wp2_with fail
        refine HN.mono ?_
        rintro e w1 ⟨rfl, hS1, _⟩
        have H2 := sign_no w w1 _ t1 47 47 rfl hS1 H47.out
        clear hS1 HN
        go_wp2_with fail
        refine H2.mono ?_
        rintro e w2 ⟨rfl, hS2, _⟩
        have hc2 := hS2.cell
        have S2 := Lib.hid hS2
        clear hS2 H2
        go_wp2_with fail
        refine (HNM _).mono ?_
        rintro e w3 ⟨rfl, hb3⟩
        have hS3 := S2.out.more hb3
        have hc3 := hS3.cell
        have hf3 := hS3.free
        have S3 := Lib.hid (hS3.set r)
        clear hS3 HNM
        go_wp2
        go_ret
        exact ⟨ret_int (by rw [R.out]; rfl), S3.out.bl⟩
      · have e1 := isEmpty_false hp
        have e2 := data_isEmpty_false hp
        have RU := RT.out
        rw [if_neg (show ¬ n.data.toList.isEmpty = true by rw [e2]; decide)] at RU
        clear RT
        have RT := Lib.hid RU
        clear RU e2
        have HAT := fun W hS => attributes_any w W w.heap.size r (by omega) hS
        have RU := RT.out
        clear RT
        obtain ⟨k, hk⟩ : ∃ k, attrsOk r = k := ⟨_, rfl⟩
        obtain ⟨u, hu⟩ : ∃ u, attrsT r = u := ⟨_, rfl⟩
        have hm : tagMid false r.data.toList = (k, u.data.toList) := by
          rw [← hk, ← hu]; unfold tagMid attrsOk attrsT
          rw [if_neg (by decide), size_len]; rfl
        have huz : u.size ≤ r.size := by rw [← hu]; unfold attrsT; rw [mkB_size, ← size_len]; exact attrsL_le _ _
        rw [hk, hu] at HAT
        rw [hm] at RU
        clear hk hu hm
        cases k with
        | false =>
          have R := Lib.hid (show tagL s.data.toList = 0 by unfold tagL; rw [show tagRest s.data.toList = none from RU.trans (if_neg Bool.false_ne_true)])
          clear RU
          go_enter Tryd.func25, Tryd.ntmps25
          go_wp2_with fail
          refine HN.mono ?_
          rintro e w1 ⟨rfl, hS1, _⟩
          have H2 := sign_no w w1 _ t1 47 47 rfl hS1 H47.out
          clear hS1 HN
          go_wp2_with fail
          refine H2.mono ?_
          rintro e w2 ⟨rfl, hS2, _⟩
          have hc2 := hS2.cell
          have S2 := Lib.hid hS2
          clear hS2 H2
          go_wp2_with fail
          refine (HNM _).mono ?_
          rintro e w3 ⟨rfl, hb3⟩
          have hS3 := S2.out.more hb3
          have hc3 := hS3.cell
          have hf3 := hS3.free
          have S3 := Lib.hid (hS3.set r)
          clear hS3 HNM
          go_wp2_with fail
          refine (HAT _ S3.out).mono ?_
          rintro e w4 ⟨rfl, hS4⟩
          have S4 := Lib.hid hS4
          clear hS4 HAT
          go_wp2
          go_ret
          exact ⟨ret_int (by rw [R.out]; rfl), S4.out.bl⟩
        | true =>
          rw [if_pos rfl] at RU
          have HWH := fun W hS => white_any w W w.heap.size u (by omega) hS
          obtain ⟨x, hx⟩ : ∃ x, whiteT u = x := ⟨_, rfl⟩
          rw [hx] at HWH
          have hxz : x.size ≤ u.size := by rw [← hx]; exact whiteT_le u
          have hx2 : tagEnd false u.data.toList = if x.data.toList.headD 0 == 47 then x.data.toList.tail else x.data.toList := by rw [← hx]; rfl
          rw [show ((true, u.data.toList) : Bool × List UInt8).2 = u.data.toList from rfl, hx2] at RU
          clear hx hx2
          cases hsl : (x.data.toList.headD 0 == 47) with
          | true =>
            have HSL := fun W hS => sign_yes w W w.heap.size x 47 (by decide) 47 rfl hS hsl
            obtain ⟨z, hz⟩ : ∃ z, tailB x = z := ⟨_, rfl⟩
            have hzz : z.size ≤ x.size := by rw [← hz]; exact tailB_le x
            rw [if_pos hsl, show x.data.toList.tail = z.data.toList by rw [← hz]; rfl] at RU
            rw [hz] at HSL
            clear hz hsl
            cases h62 : (z.data.toList.headD 0 == 62) with
            | true =>
              rw [if_pos h62] at RU
              have HGT := fun W hS => sign_yes w W w.heap.size z 62 (by decide) 62 rfl hS h62
              obtain ⟨y, hy⟩ : ∃ y, tailB z = y := ⟨_, rfl⟩
              have hyz : y.size ≤ z.size := by rw [← hy]; exact tailB_le _
              have R := Lib.hid (show (tagL s.data.toList : Int) = (s.size : Int) - (y.size : Int) by
                unfold tagL; rw [RU, show z.data.toList.tail = y.data.toList by rw [← hy]; rfl]
                simp only [size_len]; omega)
              rw [hy] at HGT
              clear hy RU h62
              go_enter Tryd.func25, Tryd.ntmps25
              go_wp2_with fail
              refine HN.mono ?_
              rintro e w1 ⟨rfl, hS1, _⟩
              have H2 := sign_no w w1 _ t1 47 47 rfl hS1 H47.out
              clear hS1 HN
              go_wp2_with fail
              refine H2.mono ?_
              rintro e w2 ⟨rfl, hS2, _⟩
              have hc2 := hS2.cell
              have S2 := Lib.hid hS2
              clear hS2 H2
              go_wp2_with fail
              refine (HNM _).mono ?_
              rintro e w3 ⟨rfl, hb3⟩
              have hS3 := S2.out.more hb3
              have hc3 := hS3.cell
              have hf3 := hS3.free
              have S3 := Lib.hid (hS3.set r)
              clear hS3 HNM
              go_wp2_with fail
              refine (HAT _ S3.out).mono ?_
              rintro e w4 ⟨rfl, hS4⟩
              have S4 := Lib.hid hS4
              clear hS4 HAT
              go_wp2_with fail
              refine (HWH _ S4.out).mono ?_
              rintro e w5 ⟨rfl, hS5⟩
              have S5 := Lib.hid hS5
              clear hS5 HWH
              go_wp2_with fail
              refine (HSL _ S5.out).mono ?_
              rintro e w6 ⟨rfl, hS6, _⟩
              have S6 := Lib.hid hS6
              clear hS6 HSL
              go_wp2_with fail
              refine (HGT _ S6.out).mono ?_
              rintro e w7 ⟨rfl, hS7, _⟩
              have hc7 := hS7.cell
              have hb7 := hS7.bl
              clear hS7 HGT
              go_wp2
              go_ret
              exact ⟨ret_int (by rw [R.out]; try omega), hb7⟩
            | false =>
              rw [if_neg (show ¬ (z.data.toList.headD 0 == 62) = true by rw [h62]; decide)] at RU
              have HGT := fun W hS => sign_no w W w.heap.size z 62 62 rfl hS h62
              have R := Lib.hid (show tagL s.data.toList = 0 by unfold tagL; rw [RU])
              clear RU h62
              go_enter Tryd.func25, Tryd.ntmps25
              go_wp2_with fail
              refine HN.mono ?_
              rintro e w1 ⟨rfl, hS1, _⟩
              have H2 := sign_no w w1 _ t1 47 47 rfl hS1 H47.out
              clear hS1 HN
              go_wp2_with fail
              refine H2.mono ?_
              rintro e w2 ⟨rfl, hS2, _⟩
              have hc2 := hS2.cell
              have S2 := Lib.hid hS2
              clear hS2 H2
              go_wp2_with fail
              refine (HNM _).mono ?_
              rintro e w3 ⟨rfl, hb3⟩
              have hS3 := S2.out.more hb3
              have hc3 := hS3.cell
              have hf3 := hS3.free
              have S3 := Lib.hid (hS3.set r)
              clear hS3 HNM
              go_wp2_with fail
              refine (HAT _ S3.out).mono ?_
              rintro e w4 ⟨rfl, hS4⟩
              have S4 := Lib.hid hS4
              clear hS4 HAT
              go_wp2_with fail
              refine (HWH _ S4.out).mono ?_
              rintro e w5 ⟨rfl, hS5⟩
              have S5 := Lib.hid hS5
              clear hS5 HWH
              go_wp2_with fail
              refine (HSL _ S5.out).mono ?_
              rintro e w6 ⟨rfl, hS6, _⟩
              have S6 := Lib.hid hS6
              clear hS6 HSL
              go_wp2_with fail
              refine (HGT _ S6.out).mono ?_
              rintro e w7 ⟨rfl, hS7, _⟩
              have hc7 := hS7.cell
              have hb7 := hS7.bl
              clear hS7 HGT
              go_wp2
              go_ret
              exact ⟨ret_int (by rw [R.out]; rfl), hb7⟩
          | false =>
            have HSL := fun W hS => sign_no w W w.heap.size x 47 47 rfl hS hsl
            obtain ⟨z, hz⟩ : ∃ z, x = z := ⟨_, rfl⟩
            subst hz
            rw [if_neg (show ¬ (x.data.toList.headD 0 == 47) = true by rw [hsl]; decide)] at RU
            clear hsl
            cases h62 : (x.data.toList.headD 0 == 62) with
            | true =>
              rw [if_pos h62] at RU
              have HGT := fun W hS => sign_yes w W w.heap.size x 62 (by decide) 62 rfl hS h62
              obtain ⟨y, hy⟩ : ∃ y, tailB x = y := ⟨_, rfl⟩
              have hyz : y.size ≤ x.size := by rw [← hy]; exact tailB_le _
              have R := Lib.hid (show (tagL s.data.toList : Int) = (s.size : Int) - (y.size : Int) by
                unfold tagL; rw [RU, show x.data.toList.tail = y.data.toList by rw [← hy]; rfl]
                simp only [size_len]; omega)
              rw [hy] at HGT
              clear hy RU h62
              go_enter Tryd.func25, Tryd.ntmps25
              go_wp2_with fail
              refine HN.mono ?_
              rintro e w1 ⟨rfl, hS1, _⟩
              have H2 := sign_no w w1 _ t1 47 47 rfl hS1 H47.out
              clear hS1 HN
              go_wp2_with fail
              refine H2.mono ?_
              rintro e w2 ⟨rfl, hS2, _⟩
              have hc2 := hS2.cell
              have S2 := Lib.hid hS2
              clear hS2 H2
              go_wp2_with fail
              refine (HNM _).mono ?_
              rintro e w3 ⟨rfl, hb3⟩
              have hS3 := S2.out.more hb3
              have hc3 := hS3.cell
              have hf3 := hS3.free
              have S3 := Lib.hid (hS3.set r)
              clear hS3 HNM
              go_wp2_with fail
              refine (HAT _ S3.out).mono ?_
              rintro e w4 ⟨rfl, hS4⟩
              have S4 := Lib.hid hS4
              clear hS4 HAT
              go_wp2_with fail
              refine (HWH _ S4.out).mono ?_
              rintro e w5 ⟨rfl, hS5⟩
              have S5 := Lib.hid hS5
              clear hS5 HWH
              go_wp2_with fail
              refine (HSL _ S5.out).mono ?_
              rintro e w6 ⟨rfl, hS6, _⟩
              have S6 := Lib.hid hS6
              clear hS6 HSL
              go_wp2_with fail
              refine (HGT _ S6.out).mono ?_
              rintro e w7 ⟨rfl, hS7, _⟩
              have hc7 := hS7.cell
              have hb7 := hS7.bl
              clear hS7 HGT
              go_wp2
              go_ret
              exact ⟨ret_int (by rw [R.out]; try omega), hb7⟩
            | false =>
              rw [if_neg (show ¬ (x.data.toList.headD 0 == 62) = true by rw [h62]; decide)] at RU
              have HGT := fun W hS => sign_no w W w.heap.size x 62 62 rfl hS h62
              have R := Lib.hid (show tagL s.data.toList = 0 by unfold tagL; rw [RU])
              clear RU h62
              go_enter Tryd.func25, Tryd.ntmps25
              go_wp2_with fail
              refine HN.mono ?_
              rintro e w1 ⟨rfl, hS1, _⟩
              have H2 := sign_no w w1 _ t1 47 47 rfl hS1 H47.out
              clear hS1 HN
              go_wp2_with fail
              refine H2.mono ?_
              rintro e w2 ⟨rfl, hS2, _⟩
              have hc2 := hS2.cell
              have S2 := Lib.hid hS2
              clear hS2 H2
              go_wp2_with fail
              refine (HNM _).mono ?_
              rintro e w3 ⟨rfl, hb3⟩
              have hS3 := S2.out.more hb3
              have hc3 := hS3.cell
              have hf3 := hS3.free
              have S3 := Lib.hid (hS3.set r)
              clear hS3 HNM
              go_wp2_with fail
              refine (HAT _ S3.out).mono ?_
              rintro e w4 ⟨rfl, hS4⟩
              have S4 := Lib.hid hS4
              clear hS4 HAT
              go_wp2_with fail
              refine (HWH _ S4.out).mono ?_
              rintro e w5 ⟨rfl, hS5⟩
              have S5 := Lib.hid hS5
              clear hS5 HWH
              go_wp2_with fail
              refine (HSL _ S5.out).mono ?_
              rintro e w6 ⟨rfl, hS6, _⟩
              have S6 := Lib.hid hS6
              clear hS6 HSL
              go_wp2_with fail
              refine (HGT _ S6.out).mono ?_
              rintro e w7 ⟨rfl, hS7, _⟩
              have hc7 := hS7.cell
              have hb7 := hS7.bl
              clear hS7 HGT
              go_wp2
              go_ret
              exact ⟨ret_int (by rw [R.out]; rfl), hb7⟩

end Go.Proofs.YtgamlckdjfjobaaDoor
