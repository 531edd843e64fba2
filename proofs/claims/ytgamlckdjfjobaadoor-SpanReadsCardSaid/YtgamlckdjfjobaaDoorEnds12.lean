/- Plain laws: what stands behind an address, or HTML, says nothing: no program. -/
import Derived.Test.YtgamlckdjfjobaaDoorPlain12
namespace Go.Proofs.YtgamlckdjfjobaaDoor

/-! ### addresses -/
theorem takeWhile_app {α : Type} (p : α → Bool) : ∀ (Q : List α) (c : α) (u : List α), (∀ x ∈ Q, p x = true) → p c = false → (Q ++ c :: u).takeWhile p = Q
  | [], c, u, _, hc => by simp [hc]
  | a :: Q, c, u, h, hc => by
    have h1 : p a = true := h a (by simp)
    rw [List.cons_append, List.takeWhile_cons, if_pos h1, takeWhile_app p Q c u (fun x hx => h x (List.mem_cons_of_mem _ hx)) hc]
theorem takeWhile_mem {α : Type} (p : α → Bool) (l : List α) : ∀ x ∈ l.takeWhile p, p x = true := by
  intro x hx
  have := List.all_takeWhile (p := p) (l := l)
  rw [List.all_eq_true] at this
  exact this x hx

/-- A text that begins with what l's address is, "<" to ">". -/
theorem autoL_of (Q u : List UInt8) (hQ : ∀ x ∈ Q, (x != 62) = true) : autoL (Q ++ 62 :: u) = if Q.headD 62 == 60 then
    if addressL Q.tail then (Q.tail, Q.tail, Q.length + 1) else if mailL Q.tail then ([109, 97, 105, 108, 116, 111, 58] ++ Q.tail, Q.tail, Q.length + 1) else ([], [], 0) else ([], [], 0) := by
  have h1 : (Q ++ 62 :: u).takeWhile (· != 62) = Q := takeWhile_app _ Q 62 u hQ rfl
  have h2 : (Q ++ 62 :: u).contains 62 = true := by simp
  have h3 : (Q ++ 62 :: u).headD 0 = Q.headD 62 := by cases Q <;> rfl
  unfold autoL innerL
  rw [h1, h2, h3, Bool.true_and]
theorem autoL_none (l : List UInt8) (h : l.contains 62 = false) : autoL l = ([], [], 0) := by
  unfold autoL; rw [h]; rfl
theorem autoL_ends (l : List UInt8) (h : 0 < (autoL l).2.2) :
    (∀ more, autoL (l.take (autoL l).2.2 ++ more) = autoL l) ∧ (autoL (l.take ((autoL l).2.2 - 1))).2.2 = 0 ∧ l[(autoL l).2.2 - 1]? = some 62 ∧ (autoL l).2.1.length = (autoL l).2.2 - 2 ∧ 2 ≤ (autoL l).2.2 := by
  have hc : l.contains 62 = true := by
    cases hc : l.contains 62 with
    | true => rfl
    | false => rw [autoL_none l hc] at h; exact absurd h (by simp)
  obtain ⟨Q, hQ⟩ : ∃ Q, l.takeWhile (· != 62) = Q := ⟨_, rfl⟩
  obtain ⟨u, hu⟩ : ∃ u, (l.dropWhile (· != 62)).tail = u := ⟨_, rfl⟩
  have e := split_at hc
  rw [hQ, hu] at e
  have hm : ∀ x ∈ Q, (x != 62) = true := by rw [← hQ]; exact takeWhile_mem _ l
  have ha := autoL_of Q u hm
  rw [← e] at ha
  have hn : (autoL l).2.2 = Q.length + 1 ∧ (autoL l).2.1 = Q.tail ∧ 1 ≤ Q.length := by
    have hne : (Q.headD 62 == 60) = true := by
      cases hq : (Q.headD 62 == 60) with
      | true => rfl
      | false => rw [hq] at ha; rw [ha] at h; exact absurd h (by simp)
    have hl : 1 ≤ Q.length := by
      cases Q with
      | nil => exact absurd hne (by decide)
      | cons a Q => simp
    rw [hne, if_pos rfl] at ha
    by_cases h1 : addressL Q.tail = true
    · rw [if_pos h1] at ha; rw [ha]; exact ⟨rfl, rfl, hl⟩
    · rw [if_neg h1] at ha
      by_cases h2 : mailL Q.tail = true
      · rw [if_pos h2] at ha; rw [ha]; exact ⟨rfl, rfl, hl⟩
      · rw [if_neg h2] at ha; rw [ha] at h; exact absurd h (by simp)
  obtain ⟨h1, h2, h3⟩ := hn
  rw [h1]
  have ht : l.take (Q.length + 1) = Q ++ [62] := by
    rw [e, show Q ++ 62 :: u = (Q ++ [62]) ++ u by simp, List.take_left' (by simp)]
  have ht2 : l.take Q.length = Q := by rw [e, List.take_left]
  refine ⟨fun more => ?_, ?_, ?_, ?_, by omega⟩
  · rw [ht, show Q ++ [62] ++ more = Q ++ 62 :: more by simp, autoL_of Q more hm, ha]
  · rw [show Q.length + 1 - 1 = Q.length by omega, ht2, autoL_none]
    have := takeWhile_not (c := 62) l
    rw [hQ] at this; exact this
  · rw [show Q.length + 1 - 1 = Q.length by omega, e]; simp
  · rw [h2, List.length_tail]; omega

/-! ### tags -/
theorem dropWhile_app {p : UInt8 → Bool} (h62 : p 62 = false) : ∀ (Q u : List UInt8), (Q ++ 62 :: u).dropWhile p = Q.dropWhile p ++ 62 :: u
  | [], u => by simp [h62]
  | a :: Q, u => by
    rw [List.cons_append, List.dropWhile_cons, List.dropWhile_cons]
    by_cases ha : p a = true
    · rw [if_pos ha, if_pos ha, dropWhile_app h62 Q u]
    · rw [if_neg ha, if_neg ha]; rfl
theorem whiteL_app (Q u : List UInt8) : whiteL (Q ++ 62 :: u) = whiteL Q ++ 62 :: u := dropWhile_app (by decide) Q u
theorem headD_app (Q u : List UInt8) (c : UInt8) (_hc : c ≠ 62) : ((Q ++ 62 :: u).headD 0 == c) = (Q.headD 62 == c) := by cases Q <;> rfl
theorem headD_app' (Q u : List UInt8) : (Q ++ 62 :: u).headD 0 = Q.headD 62 := by cases Q <;> rfl
theorem head_ne {Q : List UInt8} {c : UInt8} (hc : c ≠ 62) (h : (Q.headD 62 == c) = true) : ∃ Q', Q = c :: Q' := by
  cases Q with
  | nil => exact absurd (by simpa using h) hc.symm
  | cons a Q => exact ⟨Q, by simp at h; rw [h]⟩

theorem valueL_app (Q u : List UInt8) (h1 : (valueL (Q ++ 62 :: u)).1 = true) (h2 : u.length + 1 ≤ (valueL (Q ++ 62 :: u)).2.length) :
    ∃ Q', ∀ v, (v = u ∨ True) → valueL (Q ++ 62 :: v) = (true, Q' ++ 62 :: v) := by
  have quo : ∀ (q : UInt8), q ≠ 62 → (Q.headD 62 == q) = true → (∀ v, valueL (Q ++ 62 :: v) = if (Q ++ 62 :: v).tail.contains q then (true, ((Q ++ 62 :: v).tail.dropWhile (· != q)).tail) else (false, (Q ++ 62 :: v).tail)) →
      ∃ Q', ∀ v, (v = u ∨ True) → valueL (Q ++ 62 :: v) = (true, Q' ++ 62 :: v) := by
    intro q hq hh hv
    obtain ⟨R, rfl⟩ := head_ne hq hh
    have hu := hv u
    have et : ∀ v, ((q :: R) ++ 62 :: v).tail = R ++ 62 :: v := fun v => rfl
    rw [et] at hu
    by_cases hR : R.contains q = true
    · refine ⟨(R.dropWhile (· != q)).tail, fun v _ => ?_⟩
      rw [hv v, et]
      have hcv : (R ++ 62 :: v).contains q = true := by simp at hR ⊢; exact Or.inl hR
      rw [if_pos hcv]
      have e := split_at hR
      have hd : ∀ w : List UInt8, (R ++ w).dropWhile (· != q) = R.dropWhile (· != q) ++ w := by
        intro w
        have hne : R.dropWhile (· != q) ≠ [] := by
          intro e0; rw [dropWhile_nil] at e0
          have : q ∈ R := by simpa using hR
          have := e0 q this; simp at this
        rw [List.dropWhile_append, if_neg (by simpa using hne)]
      rw [hd]
      have hne : R.dropWhile (· != q) ≠ [] := by
        intro e0; rw [dropWhile_nil] at e0
        have : q ∈ R := by simpa using hR
        have := e0 q this; simp at this
      rw [List.tail_append_of_ne_nil hne]
    · exfalso
      have hRf : R.contains q = false := by simpa using hR
      by_cases hcu : (R ++ 62 :: u).contains q = true
      · rw [if_pos hcu] at hu
        rw [hu] at h2
        have hR2 : ∀ x ∈ R, (x != q) = true := by
          intro x hx; simp; rintro rfl; simp at hRf; exact hRf hx
        have h62 : ((62 : UInt8) != q) = true := by simpa using hq.symm
        have hd : (R ++ 62 :: u).dropWhile (· != q) = u.dropWhile (· != q) := by
          rw [List.dropWhile_append_of_pos hR2, List.dropWhile_cons, if_pos h62]
        rw [hd] at h2
        have := (List.dropWhile_sublist (· != q) (l := u)).length_le
        simp only [List.length_tail] at h2; omega
      · rw [if_neg hcu] at hu
        rw [hu] at h1; cases h1
  by_cases c1 : (Q.headD 62 == 34) = true
  · refine quo 34 (by decide) c1 (fun v => ?_)
    unfold valueL
    rw [if_pos (by rw [headD_app _ _ _ (by decide)]; exact c1)]
  · by_cases c2 : (Q.headD 62 == 39) = true
    · refine quo 39 (by decide) c2 (fun v => ?_)
      unfold valueL
      rw [if_neg (by rw [headD_app _ _ _ (by decide)]; exact c1), if_pos (by rw [headD_app _ _ _ (by decide)]; exact c2)]
    · have hv : ∀ v, valueL (Q ++ 62 :: v) = (decide ((Q.dropWhile bareB).length < Q.length), Q.dropWhile bareB ++ 62 :: v) := by
        intro v
        unfold valueL
        rw [if_neg (by rw [headD_app _ _ _ (by decide)]; exact c1), if_neg (by rw [headD_app _ _ _ (by decide)]; exact c2), dropWhile_app (by decide)]
        congr 1
        simp
      refine ⟨Q.dropWhile bareB, fun v _ => ?_⟩
      have hu := hv u
      rw [hu] at h1
      rw [hv v]
      rw [show decide ((Q.dropWhile bareB).length < Q.length) = true from h1]

theorem attributeL_app (Q u : List UInt8) (h1 : (attributeL (Q ++ 62 :: u)).2.1 = true) (h2 : u.length + 1 ≤ (attributeL (Q ++ 62 :: u)).2.2.length) :
    ∃ (is : Bool) (Q' : List UInt8), ∀ v, (v = u ∨ True) → attributeL (Q ++ 62 :: v) = (is, true, Q' ++ 62 :: v) := by
  have hlen : ∀ v : List UInt8, (whiteL (Q ++ 62 :: v)).length < (Q ++ 62 :: v).length ↔ (whiteL Q).length < Q.length := by
    intro v; rw [whiteL_app]; simp
  have hfst : ∀ v, firstB ((whiteL (Q ++ 62 :: v)).headD 0) = firstB ((whiteL Q).headD 62) := by
    intro v; rw [whiteL_app, headD_app']
  by_cases hc : (whiteL Q).length < Q.length ∧ firstB ((whiteL Q).headD 62) = true
  · have hcv : ∀ v, (whiteL (Q ++ 62 :: v)).length < (Q ++ 62 :: v).length ∧ firstB ((whiteL (Q ++ 62 :: v)).headD 0) = true := fun v => ⟨(hlen v).mpr hc.1, by rw [hfst]; exact hc.2⟩
    obtain ⟨R, hR⟩ : ∃ R, (whiteL Q).dropWhile laterB = R := ⟨_, rfl⟩
    have hRv : ∀ v, (whiteL (Q ++ 62 :: v)).dropWhile laterB = R ++ 62 :: v := by intro v; rw [whiteL_app, dropWhile_app (by decide), hR]
    have hv : ∀ v, attributeL (Q ++ 62 :: v) = if ((whiteL R).headD 62 == 61) = true then (true, valueL (whiteL (whiteL R ++ 62 :: v).tail)) else (true, true, R ++ 62 :: v) := by
      intro v
      unfold attributeL
      rw [if_pos (hcv v), hRv v, whiteL_app, headD_app _ _ _ (by decide)]
    by_cases h61 : ((whiteL R).headD 62 == 61) = true
    · obtain ⟨S, hS⟩ := head_ne (by decide) h61
      have hv2 : ∀ v, attributeL (Q ++ 62 :: v) = (true, valueL (whiteL S ++ 62 :: v)) := by
        intro v
        rw [hv v, if_pos h61, hS, show ((61 :: S) ++ 62 :: v).tail = S ++ 62 :: v from rfl, whiteL_app]
      rw [hv2 u] at h1 h2
      obtain ⟨Q', hQ'⟩ := valueL_app (whiteL S) u h1 h2
      exact ⟨true, Q', fun v hv' => by rw [hv2 v, hQ' v hv']⟩
    · exact ⟨true, R, fun v _ => by rw [hv v, if_neg h61]⟩
  · refine ⟨false, Q, fun v _ => ?_⟩
    unfold attributeL
    rw [if_neg (by rw [hlen, hfst]; exact hc)]

theorem attrsL_fuel : ∀ (f g : Nat) (l : List UInt8), l.length < f → l.length < g → attrsL f l = attrsL g l
  | 0, _, _, h, _ => by omega
  | _ + 1, 0, _, _, h => by omega
  | f + 1, g + 1, l, hf, hg => by
    unfold attrsL
    cases h : ((attributeL l).1 && (attributeL l).2.1) with
    | false => rfl
    | true =>
      rw [Bool.and_eq_true] at h
      have := attributeL_lt l h.1
      exact attrsL_fuel f g _ (by omega) (by omega)

theorem attrsL_app : ∀ (f : Nat) (Q u : List UInt8), (Q ++ 62 :: u).length < f → (attrsL f (Q ++ 62 :: u)).1 = true → u.length + 1 ≤ (attrsL f (Q ++ 62 :: u)).2.length →
    ∃ Q', ∀ v, (v = u ∨ True) → ∀ g, (Q ++ 62 :: v).length < g → attrsL g (Q ++ 62 :: v) = (true, Q' ++ 62 :: v)
  | 0, _, _, hf, _, _ => by omega
  | f + 1, Q, u, hf, h1, h2 => by
    have hw : (attributeL (Q ++ 62 :: u)).2.1 = true := by
      cases hw : (attributeL (Q ++ 62 :: u)).2.1 with
      | true => rfl
      | false =>
        rw [attrsL, hw, Bool.and_false, if_neg (by decide)] at h1
        rw [hw] at h1; cases h1
    have hl : u.length + 1 ≤ (attributeL (Q ++ 62 :: u)).2.2.length := by
      rw [attrsL] at h2
      split at h2
      · exact Nat.le_trans h2 (attrsL_le f _)
      · exact h2
    obtain ⟨is, R, hR⟩ := attributeL_app Q u hw hl
    have hu := hR u (Or.inl rfl)
    cases is with
    | false =>
      refine ⟨R, fun v hv g hg => ?_⟩
      obtain ⟨g, rfl⟩ : ∃ k, g = k + 1 := ⟨g - 1, by omega⟩
      rw [attrsL, hR v hv]; rfl
    | true =>
      have hlt := attributeL_lt (Q ++ 62 :: u) (by rw [hu])
      rw [hu] at hlt
      have h1' : (attrsL f (R ++ 62 :: u)).1 = true := by
        rw [attrsL, hu] at h1; exact h1
      have h2' : u.length + 1 ≤ (attrsL f (R ++ 62 :: u)).2.length := by
        rw [attrsL, hu] at h2; exact h2
      obtain ⟨S, hS⟩ := attrsL_app f R u (by simp at hlt hf ⊢; omega) h1' h2'
      refine ⟨S, fun v hv g hg => ?_⟩
      obtain ⟨g, rfl⟩ : ∃ k, g = k + 1 := ⟨g - 1, by omega⟩
      have hvv := hR v hv
      rw [attrsL, hvv]
      show attrsL g (R ++ 62 :: v) = _
      exact hS v hv g (by simp at hlt hg ⊢; omega)

theorem namedL_app (Q u : List UInt8) : ∃ (n Q' : List UInt8), ∀ v, (v = u ∨ True) → namedL (Q ++ 62 :: v) = (n, Q' ++ 62 :: v) := by
  cases Q with
  | nil => exact ⟨[], [], fun v _ => rfl⟩
  | cons a Q =>
    by_cases ha : letterI (a.toNat : Int) = true
    · refine ⟨a :: Q.takeWhile nameB, Q.dropWhile nameB, fun v _ => ?_⟩
      unfold namedL
      rw [if_pos (show letterI ((((a :: Q) ++ 62 :: v).headD 0).toNat : Int) = true from ha)]
      have h1 : ∀ (R : List UInt8), (R ++ 62 :: v).takeWhile nameB = R.takeWhile nameB := by
        intro R
        induction R with
        | nil => rfl
        | cons b R ih => rw [List.cons_append, List.takeWhile_cons, List.takeWhile_cons, ih]
      show ((a :: (Q ++ 62 :: v).takeWhile nameB, (Q ++ 62 :: v).dropWhile nameB) : List UInt8 × List UInt8) = _
      rw [h1, dropWhile_app (by decide)]
    · refine ⟨[], a :: Q, fun v _ => ?_⟩
      unfold namedL
      rw [if_neg (show ¬ letterI ((((a :: Q) ++ 62 :: v).headD 0).toNat : Int) = true from ha)]

/-! #### what is left is a text's end -/
theorem white_suffix (l : List UInt8) : whiteL l <:+ l := List.dropWhile_suffix _
theorem tail_suffix {l m : List UInt8} (h : l <:+ m) : l.tail <:+ m := (List.tail_suffix l).trans h
theorem named_suffix (l : List UInt8) : (namedL l).2 <:+ l := by
  unfold namedL
  split
  · exact (List.dropWhile_suffix _).trans (List.tail_suffix l)
  · exact List.suffix_refl l
theorem value_suffix (l : List UInt8) : (valueL l).2 <:+ l := by
  have q : ∀ c : UInt8, (l.tail.dropWhile (· != c)).tail <:+ l := fun c => tail_suffix ((List.dropWhile_suffix _).trans (List.tail_suffix l))
  unfold valueL
  repeat' split
  · exact q 34
  · exact List.tail_suffix l
  · exact q 39
  · exact List.tail_suffix l
  · exact List.dropWhile_suffix _
theorem attribute_suffix (l : List UInt8) : (attributeL l).2.2 <:+ l := by
  have h1 : (whiteL l).dropWhile laterB <:+ l := (List.dropWhile_suffix _).trans (white_suffix l)
  unfold attributeL
  repeat' split
  · exact (value_suffix _).trans ((white_suffix _).trans (tail_suffix ((white_suffix _).trans h1)))
  · exact h1
  · exact List.suffix_refl l
theorem attrs_suffix : ∀ (f : Nat) (l : List UInt8), (attrsL f l).2 <:+ l
  | 0, l => List.suffix_refl l
  | f + 1, l => by
    unfold attrsL
    split
    · exact (attrs_suffix f _).trans (attribute_suffix l)
    · exact attribute_suffix l
theorem head_suffix (l : List UInt8) : (tagHead l).2 <:+ l := by
  unfold tagHead
  split
  · exact List.tail_suffix l
  · exact List.suffix_refl l
theorem mid_suffix (c : Bool) (l : List UInt8) : (tagMid c l).2 <:+ l := by
  unfold tagMid
  split
  · exact List.suffix_refl l
  · exact attrs_suffix _ l
theorem end_suffix (c : Bool) (l : List UInt8) : tagEnd c l <:+ l := by
  unfold tagEnd
  split
  · exact tail_suffix (white_suffix l)
  · exact white_suffix l

theorem tagHead_app (P v : List UInt8) : tagHead (P ++ 62 :: v) = (P.headD 62 == 47, (if P.headD 62 == 47 then P.tail else P) ++ 62 :: v) := by
  unfold tagHead
  rw [headD_app _ _ _ (by decide)]
  by_cases h : (P.headD 62 == 47) = true
  · obtain ⟨Q, rfl⟩ := head_ne (by decide) h
    rw [if_pos h, if_pos h, h]; rfl
  · rw [if_neg h, if_neg h, show (P.headD 62 == 47) = false by simpa using h]
theorem tagEnd_app (c : Bool) (P v : List UInt8) : tagEnd c (P ++ 62 :: v) = (if !c && (whiteL P).headD 62 == 47 then (whiteL P).tail else whiteL P) ++ 62 :: v := by
  unfold tagEnd
  rw [whiteL_app, headD_app _ _ _ (by decide)]
  by_cases h : (!c && (whiteL P).headD 62 == 47) = true
  · rw [if_pos h, if_pos h]
    rw [Bool.and_eq_true] at h
    obtain ⟨Q, hQ⟩ := head_ne (by decide) h.2
    rw [hQ]; rfl
  · rw [if_neg h, if_neg h]

theorem tagRest_app (l u : List UInt8) (h : tagRest l = some u) : ∃ P, l = P ++ 62 :: u ∧ 1 ≤ P.length ∧ ∀ v, tagRest (P ++ 62 :: v) = some v := by
  unfold tagRest at h
  have h60 : (l.headD 0 == 60) = true := by
    by_cases k : (l.headD 0 == 60) = true
    · exact k
    · rw [if_neg k] at h; cases h
  rw [if_pos h60] at h
  by_cases hn : (namedL (tagHead l.tail).2).1.isEmpty = true
  · rw [if_pos hn] at h; cases h
  rw [if_neg hn] at h
  have hm : (tagMid (tagHead l.tail).1 (namedL (tagHead l.tail).2).2).1 = true := by
    by_cases k : (tagMid (tagHead l.tail).1 (namedL (tagHead l.tail).2).2).1 = true
    · exact k
    · rw [if_neg k] at h; cases h
  rw [if_pos hm] at h
  have he : ((tagEnd (tagHead l.tail).1 (tagMid (tagHead l.tail).1 (namedL (tagHead l.tail).2).2).2).headD 0 == 62) = true := by
    by_cases k : ((tagEnd (tagHead l.tail).1 (tagMid (tagHead l.tail).1 (namedL (tagHead l.tail).2).2).2).headD 0 == 62) = true
    · exact k
    · rw [if_neg k] at h; cases h
  rw [if_pos he] at h
  have hu := Option.some.inj h
  -- the end
  have e5 : tagEnd (tagHead l.tail).1 (tagMid (tagHead l.tail).1 (namedL (tagHead l.tail).2).2).2 = 62 :: u := by
    cases hx : tagEnd (tagHead l.tail).1 (tagMid (tagHead l.tail).1 (namedL (tagHead l.tail).2).2).2 with
    | nil => rw [hx] at he; exact absurd he (by decide)
    | cons a r =>
      rw [hx] at he hu
      have : a = 62 := by simpa using he
      rw [this]; rw [← hu]; rfl
  have suf : 62 :: u <:+ l.tail := by
    rw [← e5]
    exact (end_suffix _ _).trans ((mid_suffix _ _).trans ((named_suffix _).trans (head_suffix _)))
  obtain ⟨P1, hP1⟩ := suf
  have hl : l = (60 :: P1) ++ 62 :: u := by
    cases l with
    | nil => exact absurd h60 (by decide)
    | cons a r =>
      have : a = 60 := by simpa using h60
      rw [this]
      show 60 :: r = 60 :: (P1 ++ 62 :: u)
      rw [hP1]; rfl
  refine ⟨60 :: P1, hl, by simp, fun v => ?_⟩
  rw [← hP1] at hn hm e5
  rw [tagHead_app] at hn hm e5
  simp only at hn hm e5
  obtain ⟨c, hc⟩ : ∃ c, (P1.headD 62 == 47) = c := ⟨_, rfl⟩
  obtain ⟨P2, hP2⟩ : ∃ P2, (if P1.headD 62 == 47 then P1.tail else P1) = P2 := ⟨_, rfl⟩
  rw [hP2, hc] at hm e5
  rw [hP2] at hn
  obtain ⟨n, P3, hN⟩ := namedL_app P2 u
  have hNu := hN u (Or.inl rfl)
  rw [hNu] at hn hm e5
  simp only at hn hm e5
  have hlast : ∃ P4, (∀ v, tagMid c (P3 ++ 62 :: v) = (true, P4 ++ 62 :: v)) := by
    cases c with
    | true => exact ⟨P3, fun v => rfl⟩
    | false =>
      have hm' : (attrsL ((P3 ++ 62 :: u).length + 1) (P3 ++ 62 :: u)).1 = true := hm
      have hlen : u.length + 1 ≤ (attrsL ((P3 ++ 62 :: u).length + 1) (P3 ++ 62 :: u)).2.length := by
        have := (end_suffix false (tagMid false (P3 ++ 62 :: u)).2).length_le
        rw [e5, List.length_cons] at this
        exact this
      obtain ⟨P4, hP4⟩ := attrsL_app _ P3 u (by omega) hm' hlen
      exact ⟨P4, fun v => hP4 v (Or.inr trivial) _ (by omega)⟩
  obtain ⟨P4, hP4⟩ := hlast
  rw [hP4 u, tagEnd_app] at e5
  have h5 : (if !c && (whiteL P4).headD 62 == 47 then (whiteL P4).tail else whiteL P4) = [] := by
    have := congrArg List.length e5
    simp only [List.length_append, List.length_cons] at this
    exact List.eq_nil_of_length_eq_zero (by omega)
  have t1 : ((60 :: P1) ++ 62 :: v).tail = P1 ++ 62 :: v := rfl
  have t2 : (((60 :: P1) ++ 62 :: v).headD 0 == 60) = true := rfl
  have hh : tagHead (P1 ++ 62 :: v) = (c, P2 ++ 62 :: v) := by rw [tagHead_app, hP2, hc]
  unfold tagRest
  rw [if_pos t2, t1, hh]
  simp only
  rw [hN v (Or.inr trivial)]
  simp only
  rw [if_neg hn, hP4 v]
  simp only
  rw [if_pos trivial, tagEnd_app, h5]
  rfl

theorem tagL_app (l : List UInt8) (h : 0 < tagL l) : ∃ P u, l = P ++ 62 :: u ∧ 1 ≤ P.length ∧ tagL l = P.length + 1 ∧ l.headD 0 = 60 ∧ ∀ v, tagL (P ++ 62 :: v) = P.length + 1 := by
  unfold tagL at h
  cases hr : tagRest l with
  | none => rw [hr] at h; cases h
  | some u =>
    obtain ⟨P, e, hp, hv⟩ := tagRest_app l u hr
    have hL : ∀ v, tagL (P ++ 62 :: v) = P.length + 1 := by
      intro v; unfold tagL; rw [hv v]; simp; omega
    have h60 : l.headD 0 = 60 := by
      unfold tagRest at hr
      by_cases h60 : (l.headD 0 == 60) = true
      · simpa using h60
      · rw [if_neg h60] at hr; cases hr
    exact ⟨P, u, e, hp, by rw [e]; exact hL u, h60, hL⟩

end Go.Proofs.YtgamlckdjfjobaaDoor
