/- Plain laws: what stands behind HTML says nothing: no program. -/
import Derived.Test.YtgamlckdjfjobaaDoorEnds12
namespace Go.Proofs.YtgamlckdjfjobaaDoor

theorem prefix_app (p X a b : List UInt8) (h : p.length ≤ X.length) : Lib.hasPrefix (X ++ a) p = Lib.hasPrefix (X ++ b) p := by
  have key : ∀ c : List UInt8, Lib.hasPrefix (X ++ c) p = Lib.hasPrefix X p := by
    intro c
    unfold Lib.hasPrefix
    rw [Bool.eq_iff_iff, List.isPrefixOf_iff_prefix, List.isPrefixOf_iff_prefix]
    constructor
    · intro hp; exact List.prefix_of_prefix_length_le hp (List.prefix_append X c) h
    · intro hp; exact hp.trans (List.prefix_append X c)
  rw [key a, key b]
theorem prefix_split {l p : List UInt8} (h : Lib.hasPrefix l p = true) : ∃ r, l = p ++ r := by
  obtain ⟨r, hr⟩ := List.isPrefixOf_iff_prefix.mp h
  exact ⟨r, hr.symm⟩
theorem prefix_self (p r : List UInt8) : Lib.hasPrefix (p ++ r) p = true := List.isPrefixOf_iff_prefix.mpr (List.prefix_append p r)

theorem occ_app (e x u v : List UInt8) (j : Nat) (h : j + e.length ≤ x.length) : Lib.occAt (x ++ u) e j = Lib.occAt (x ++ v) e j := by
  unfold Lib.occAt
  rw [List.drop_append_of_le_length (by omega), List.drop_append_of_le_length (by omega)]
  exact prefix_app e (x.drop j) u v (by rw [List.length_drop]; omega)

theorem index_app (r e : List UInt8) (h : 0 ≤ Lib.index r e) : ∃ r1 u, r = r1 ++ e ++ u ∧ Lib.index r e = (r1.length : Int) ∧ ∀ v, Lib.index (r1 ++ e ++ v) e = (r1.length : Int) := by
  rcases Lib.index_spec r e with ⟨h1, _⟩ | ⟨i, hi, hle, hocc, hno⟩
  · omega
  · have hr := Lib.index_room r e h
    have hpre : Lib.hasPrefix (r.drop i) e = true := hocc
    obtain ⟨u, hu⟩ := prefix_split hpre
    have e1 : r = r.take i ++ e ++ u := by rw [List.append_assoc, ← hu, List.take_append_drop]
    have hl : (r.take i).length = i := by rw [List.length_take]; omega
    refine ⟨r.take i, u, e1, by rw [hl]; exact hi, fun v => ?_⟩
    rw [hl]
    refine Lib.index_first (by simp; omega) ?_ ?_
    · show Lib.hasPrefix ((r.take i ++ e ++ v).drop i) e = true
      rw [List.append_assoc, List.drop_append_of_le_length (by omega), List.drop_of_length_le (by omega)]
      exact prefix_self e v
    · intro j hj
      have := hno j hj
      rw [e1] at this
      rw [← this]
      exact occ_app e (r.take i ++ e) v u j (by rw [List.length_append, hl]; omega)

theorem betw_app (b e b' r : List UInt8) (hb : b'.length = b.length) (hb0 : 0 < betweenL b e (b' ++ r)) :
    ∃ r1 u, r = r1 ++ e ++ u ∧ betweenL b e (b' ++ r) = b.length + r1.length + e.length ∧ ∀ v, betweenL b e (b' ++ (r1 ++ e ++ v)) = b.length + r1.length + e.length := by
  have hd : ∀ x : List UInt8, (b' ++ x).drop b.length = x := fun x => by rw [← hb, List.drop_left]
  unfold betweenL at *
  rw [hd] at hb0 ⊢
  by_cases h0 : 0 ≤ Lib.index r e
  · obtain ⟨r1, u, e1, e2, e3⟩ := index_app r e h0
    refine ⟨r1, u, e1, ?_, fun v => ?_⟩
    · rw [if_pos h0, e2]; rfl
    · rw [hd, e3 v, if_pos (by omega)]; rfl
  · rw [if_neg h0] at hb0; cases hb0

theorem tag_bang (c : UInt8) (r : List UInt8) (h1 : (c == 47) = false) (h2 : letterI (c.toNat : Int) = false) : tagL (60 :: c :: r) = 0 := by
  unfold tagL tagRest
  have e1 : tagHead (60 :: c :: r).tail = (false, c :: r) := by
    unfold tagHead; rw [if_neg (by show ¬ (c == 47) = true; rw [h1]; decide)]; rfl
  have e2 : namedL (c :: r) = ([], c :: r) := by
    unfold namedL; rw [if_neg (by show ¬ letterI (c.toNat : Int) = true; rw [h2]; decide)]
  rw [e1]
  simp only
  rw [e2]
  rfl

theorem decl_no (c : UInt8) (r : List UInt8) (h : letterI (c.toNat : Int) = false) : isDecl (60 :: 33 :: c :: r) = false := by
  unfold isDecl
  have q : (60 :: 33 :: c :: r).drop 2 = c :: r := rfl
  rw [q, List.headD_cons, h, Bool.and_false]

structure RawApp (l : List UInt8) (P u : List UInt8) : Prop where
  eq : l = P ++ 62 :: u
  len : rawL l = P.length + 1
  pos : 1 ≤ P.length
  all : ∀ v, rawL (P ++ 62 :: v) = P.length + 1

theorem letter_ne {c d : UInt8} (h : letterI (c.toNat : Int) = true) (hd : letterI (d.toNat : Int) = false) : (d == c) = false := by
  simp; rintro rfl; rw [h] at hd; cases hd
theorem rawL_app (l : List UInt8) (h : 0 < rawL l) : ∃ P u, RawApp l P u ∧ l.headD 0 = 60 := by
  by_cases ht : 0 < tagL l
  · obtain ⟨P, u, e, hp, hl, h60, hv⟩ := tagL_app l ht
    refine ⟨P, u, ⟨e, ?_, hp, fun v => ?_⟩, h60⟩
    · unfold rawL; rw [if_pos ht, hl]
    · unfold rawL; rw [if_pos (by rw [hv]; omega), hv]
  have R : rawL l = rawL l := rfl
  conv at R => rhs; unfold rawL
  rw [if_neg ht] at R
  by_cases h5 : isComment5 l = true
  · obtain ⟨r, rfl⟩ := prefix_split h5
    have hx : ∀ v, rawL ([60, 33, 45, 45] ++ 62 :: v) = 5 := by
      intro v
      unfold rawL
      rw [if_neg (by rw [show tagL ([60, 33, 45, 45] ++ 62 :: v) = 0 from tag_bang 33 _ rfl (by decide)]; decide), if_pos (show isComment5 ([60, 33, 45, 45] ++ 62 :: v) = true from prefix_self [60, 33, 45, 45, 62] v)]
    exact ⟨[60, 33, 45, 45], r, ⟨rfl, hx r, by decide, hx⟩, rfl⟩
  rw [if_neg h5] at R
  by_cases h6 : isComment6 l = true
  · obtain ⟨r, rfl⟩ := prefix_split h6
    have hx : ∀ v, rawL ([60, 33, 45, 45, 45] ++ 62 :: v) = 6 := by
      intro v
      unfold rawL
      rw [if_neg (by rw [show tagL ([60, 33, 45, 45, 45] ++ 62 :: v) = 0 from tag_bang 33 _ rfl (by decide)]; decide),
        if_neg (show ¬ isComment5 ([60, 33, 45, 45, 45] ++ 62 :: v) = true by show ¬ Lib.hasPrefix ([60, 33, 45, 45, 45, 62] ++ v) [60, 33, 45, 45, 62] = true; rw [prefix_app _ _ v [] (by decide)]; decide), if_pos (show isComment6 ([60, 33, 45, 45, 45] ++ 62 :: v) = true from prefix_self [60, 33, 45, 45, 45, 62] v)]
    exact ⟨[60, 33, 45, 45, 45], r, ⟨rfl, hx r, by decide, hx⟩, rfl⟩
  rw [if_neg h6] at R
  by_cases hd : isDecl l = true
  · rw [if_pos hd] at R
    have hd' := hd
    unfold isDecl at hd'
    rw [Bool.and_eq_true, Bool.and_eq_true] at hd'
    obtain ⟨r0, rfl⟩ := prefix_split hd'.1.2
    cases r0 with
    | nil => have := hd'.1.1; simp at this
    | cons c r =>
      have hc : letterI (c.toNat : Int) = true := hd'.2
      have e0 : [60, 33] ++ c :: r = [60, 33, c] ++ r := rfl
      rw [e0] at R h ⊢
      rw [R] at h
      obtain ⟨r1, u, e1, e2, e3⟩ := betw_app [60, 33, 120] [62] [60, 33, c] r rfl h
      have hx : ∀ v, rawL (([60, 33, c] ++ r1) ++ 62 :: v) = ([60, 33, c] ++ r1).length + 1 := by
        intro v
        have es : ([60, 33, c] ++ r1) ++ 62 :: v = [60, 33, c] ++ (r1 ++ [62] ++ v) := by simp
        rw [es]
        unfold rawL
        have k1 : tagL ([60, 33, c] ++ (r1 ++ [62] ++ v)) = 0 := tag_bang 33 _ rfl (by decide)
        have k2 : isComment5 ([60, 33, c] ++ (r1 ++ [62] ++ v)) = false := by
          have := letter_ne (d := 45) hc (by decide)
          unfold isComment5 Lib.hasPrefix; simp [List.isPrefixOf, this]
        have k3 : isComment6 ([60, 33, c] ++ (r1 ++ [62] ++ v)) = false := by
          have := letter_ne (d := 45) hc (by decide)
          unfold isComment6 Lib.hasPrefix; simp [List.isPrefixOf, this]
        have k4 : isDecl ([60, 33, c] ++ (r1 ++ [62] ++ v)) = true := by
          unfold isDecl
          rw [show Lib.hasPrefix ([60, 33, c] ++ (r1 ++ [62] ++ v)) [60, 33] = true from prefix_self [60, 33] _]
          have q : ([60, 33, c] ++ (r1 ++ [62] ++ v)).drop 2 = c :: (r1 ++ [62] ++ v) := rfl
          rw [q, List.headD_cons, hc]
          simp
        rw [k1, k2, k3, k4, if_neg (by decide), if_neg (by decide), if_neg (by decide), if_pos rfl, e3 v]
        simp; omega
      refine ⟨[60, 33, c] ++ r1, u, ⟨by rw [e1]; simp, ?_, by simp, hx⟩, rfl⟩
      rw [R, e2]; simp; omega
  rw [if_neg hd] at R
  have fin : ∀ (b e0 : List UInt8), (∀ x, tagL (b ++ x) = 0) → 2 ≤ b.length → 6 ≤ b.length + e0.length + 1 ∨ (∀ x, isComment5 (b ++ x) = false ∧ isComment6 (b ++ x) = false) →
      (∀ x, isDecl (b ++ x) = false) → b.headD 0 = 60 → (∀ x, isComment5 (b ++ x) = false → isComment6 (b ++ x) = false → rawL (b ++ x) = betweenL b (e0 ++ [62]) (b ++ x)) → Lib.hasPrefix l b = true → ∃ P u, RawApp l P u ∧ l.headD 0 = 60 := by
    intro b e0 kt kb kc kd k60 kr hpre
    obtain ⟨r, rfl⟩ := prefix_split hpre
    have n5 : isComment5 (b ++ r) = false := by simpa using h5
    have n6 : isComment6 (b ++ r) = false := by simpa using h6
    rw [kr r n5 n6] at h
    obtain ⟨r1, u, e1, e2, e3⟩ := betw_app b (e0 ++ [62]) b r rfl h
    have hx : ∀ v, rawL ((b ++ r1 ++ e0) ++ 62 :: v) = (b ++ r1 ++ e0).length + 1 := by
      intro v
      have es : (b ++ r1 ++ e0) ++ 62 :: v = b ++ (r1 ++ (e0 ++ [62]) ++ v) := by simp
      rw [es]
      have m5 : isComment5 (b ++ (r1 ++ (e0 ++ [62]) ++ v)) = false ∧ isComment6 (b ++ (r1 ++ (e0 ++ [62]) ++ v)) = false := by
        rcases kc with kc | kc
        · rw [e1] at n5 n6
          have q : ∀ w, b ++ (r1 ++ (e0 ++ [62]) ++ w) = (b ++ r1 ++ (e0 ++ [62])) ++ w := fun w => by simp
          rw [q] at n5 n6 ⊢
          have ql : 6 ≤ (b ++ r1 ++ (e0 ++ [62])).length := by simp; omega
          constructor
          · rw [← n5]; exact prefix_app _ _ v u (by simp at ql ⊢; omega)
          · rw [← n6]; exact prefix_app _ _ v u (by simp at ql ⊢; omega)
        · exact kc _
      rw [kr _ m5.1 m5.2, e3 v]
      simp
      omega
    refine ⟨b ++ r1 ++ e0, u, ⟨by rw [e1]; simp, ?_, by simp; omega, hx⟩, ?_⟩
    · rw [kr r n5 n6, e2]; simp; omega
    · cases b with
      | nil => simp at kb
      | cons a b => exact k60
  by_cases p1 : Lib.hasPrefix l [60, 33, 45, 45] = true
  · refine fin [60, 33, 45, 45] [45, 45] (fun x => tag_bang 33 _ rfl (by decide)) (by decide) (Or.inl (by decide)) (fun x => decl_no 45 _ (by decide)) rfl (fun x n5 n6 => ?_) p1
    · unfold rawL
      have nd : isDecl ([60, 33, 45, 45] ++ x) = false := decl_no 45 _ (by decide)
      rw [n5, n6, nd, show tagL ([60, 33, 45, 45] ++ x) = 0 from tag_bang 33 _ rfl (by decide), if_neg (by decide), if_neg (by decide), if_neg (by decide), if_neg (by decide), if_pos (prefix_self [60, 33, 45, 45] x)]
      rfl
  rw [if_neg p1] at R
  by_cases p2 : Lib.hasPrefix l [60, 63] = true
  · have c56 : ∀ x, isComment5 ([60, 63] ++ x) = false ∧ isComment6 ([60, 63] ++ x) = false := by
      intro x; constructor
      · unfold isComment5 Lib.hasPrefix; simp [List.isPrefixOf]
      · unfold isComment6 Lib.hasPrefix; simp [List.isPrefixOf]
    have cd : ∀ x, isDecl ([60, 63] ++ x) = false := by
      intro x; unfold isDecl
      rw [show Lib.hasPrefix ([60, 63] ++ x) [60, 33] = false by unfold Lib.hasPrefix; simp [List.isPrefixOf]]; simp
    refine fin [60, 63] [63] (fun x => tag_bang 63 _ rfl (by decide)) (by decide) (Or.inr c56) cd rfl (fun x n5 n6 => ?_) p2
    unfold rawL
    rw [n5, n6, cd, show tagL ([60, 63] ++ x) = 0 from tag_bang 63 _ rfl (by decide), if_neg (by decide), if_neg (by decide), if_neg (by decide), if_neg (by decide),
      if_neg (by rw [show Lib.hasPrefix ([60, 63] ++ x) [60, 33, 45, 45] = false by unfold Lib.hasPrefix; simp [List.isPrefixOf]]; decide), if_pos (prefix_self [60, 63] x)]
    rfl
  rw [if_neg p2] at R
  by_cases p3 : Lib.hasPrefix l [60, 33, 91, 67, 68, 65, 84, 65, 91] = true
  · have cd : ∀ x, isDecl ([60, 33, 91, 67, 68, 65, 84, 65, 91] ++ x) = false := fun x => decl_no 91 _ (by decide)
    refine fin [60, 33, 91, 67, 68, 65, 84, 65, 91] [93, 93] (fun x => tag_bang 33 _ rfl (by decide)) (by decide) (Or.inl (by decide)) cd rfl (fun x n5 n6 => ?_) p3
    unfold rawL
    rw [n5, n6, cd, show tagL ([60, 33, 91, 67, 68, 65, 84, 65, 91] ++ x) = 0 from tag_bang 33 _ rfl (by decide), if_neg (by decide), if_neg (by decide), if_neg (by decide), if_neg (by decide),
      if_neg (by rw [show Lib.hasPrefix ([60, 33, 91, 67, 68, 65, 84, 65, 91] ++ x) [60, 33, 45, 45] = false by unfold Lib.hasPrefix; simp [List.isPrefixOf]]; decide),
      if_neg (by rw [show Lib.hasPrefix ([60, 33, 91, 67, 68, 65, 84, 65, 91] ++ x) [60, 63] = false by unfold Lib.hasPrefix; simp [List.isPrefixOf]]; decide),
      if_pos (prefix_self [60, 33, 91, 67, 68, 65, 84, 65, 91] x)]
    rfl
  rw [if_neg p3] at R
  rw [R] at h; cases h

theorem rawL_ends (l : List UInt8) (h : 0 < rawL l) :
    (∀ more, rawL (l.take (rawL l) ++ more) = rawL l) ∧ rawL (l.take (rawL l - 1)) = 0 ∧ l[rawL l - 1]? = some 62 ∧ l.headD 0 = 60 := by
  obtain ⟨P, u, ⟨e, hl, hp, hv⟩, h60⟩ := rawL_app l h
  rw [hl]
  have ht : l.take (P.length + 1) = P ++ [62] := by
    rw [e, show P ++ 62 :: u = (P ++ [62]) ++ u by simp, List.take_left' (by simp)]
  have ht2 : l.take (P.length + 1 - 1) = P := by rw [show P.length + 1 - 1 = P.length by omega, e, List.take_left]
  refine ⟨fun more => ?_, ?_, ?_, h60⟩
  · rw [ht, show P ++ [62] ++ more = P ++ 62 :: more by simp, hv]
  · rw [ht2]
    by_cases h0 : 0 < rawL P
    · exfalso
      obtain ⟨Q, w, ⟨e2, hl2, _, hv2⟩, _⟩ := rawL_app P h0
      have := hv2 (w ++ 62 :: u)
      have e3 : Q ++ 62 :: (w ++ 62 :: u) = l := by rw [e, e2]; simp
      rw [e3, hl] at this
      have l1 : P.length = Q.length + 1 + w.length := by rw [e2]; simp; omega
      omega
    · omega
  · rw [e]; simp

end Go.Proofs.YtgamlckdjfjobaaDoor
