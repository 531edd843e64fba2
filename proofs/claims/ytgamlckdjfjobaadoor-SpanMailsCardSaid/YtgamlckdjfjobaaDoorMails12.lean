/- Plain laws: a name and a host of letters: no program. -/
import Derived.Test.YtgamlckdjfjobaaDoorEnds12
namespace Go.Proofs.YtgamlckdjfjobaaDoor

/-- Small letters alone. -/
def smallB (b : UInt8) : Bool := decide (97 ≤ b.toNat) && decide (b.toNat ≤ 122)
theorem small_facts : ∀ b : UInt8, smallB b = true → letterI (b.toNat : Int) = true ∧ b ≠ 58 ∧ b ≠ 62 ∧ b ≠ 64 ∧ b ≠ 46 ∧ b ≠ 45 ∧ b ≠ 47 ∧ b ≠ 32 ∧ b ≠ 9 ∧ b ≠ 10 ∧ restB b = true := by
  intro b h
  have h2 : 97 ≤ b.toNat ∧ b.toNat ≤ 122 := by simpa [smallB] using h
  have ne : ∀ c : UInt8, c.toNat < 97 → b ≠ c := by rintro c hc rfl; omega
  refine ⟨?_, ne _ (by decide), ne _ (by decide), ne _ (by decide), ne _ (by decide), ne _ (by decide), ne _ (by decide), ne _ (by decide), ne _ (by decide), ne _ (by decide), ?_⟩
  · unfold letterI
    rw [decide_eq_true (by omega : (97 : Int) ≤ (b.toNat : Int)), decide_eq_true (by omega : (b.toNat : Int) ≤ 122)]; rfl
  · unfold restB
    rw [decide_eq_true (by omega : (32 : Int) < (b.toNat : Int)), decide_eq_true (by omega : (b.toNat : Int) ≠ 127), decide_eq_true (by omega : (b.toNat : Int) ≠ 60), decide_eq_true (by omega : (b.toNat : Int) ≠ 62)]; rfl

structure Small (l : List UInt8) : Prop where
  mk :: (out : ∀ b ∈ l, smallB b = true)
theorem Small.word {l : List UInt8} (h : Small l) (more : List UInt8) : allL l (wordB more) = true := by
  unfold allL; rw [List.all_eq_true]
  intro b hb; unfold wordB; rw [(small_facts b (h.out b hb)).1]; rfl
theorem Small.rest {l : List UInt8} (h : Small l) : allL l restB = true := by
  unfold allL; rw [List.all_eq_true]
  intro b hb; exact (small_facts b (h.out b hb)).2.2.2.2.2.2.2.2.2.2
theorem Small.no {l : List UInt8} (h : Small l) (c : UInt8) (hc : c.toNat < 97) : l.contains c = false := by
  cases e : l.contains c with
  | false => rfl
  | true =>
    have : c ∈ l := by simpa using e
    have h2 := h.out c this
    simp [smallB] at h2; omega
theorem Small.ne {l : List UInt8} (h : Small l) (c : UInt8) (hc : c.toNat < 97) : ∀ x ∈ l, (x != c) = true := by
  intro x hx; simp; rintro rfl
  have h2 := h.out x hx
  simp [smallB] at h2; omega
theorem Small.head {l : List UInt8} (h : Small l) (hl : 1 ≤ l.length) : smallB (l.headD 0) = true := by
  cases l with
  | nil => simp at hl
  | cons a l => exact h.out a (by simp)
theorem Small.last {l : List UInt8} (h : Small l) (hl : 1 ≤ l.length) : smallB (l.getLastD 0) = true := by
  cases l with
  | nil => simp at hl
  | cons a l =>
    rw [List.getLastD_eq_getLast?, List.getLast?_eq_some_getLast (by simp)]
    exact h.out _ (List.getLast_mem (by simp))
theorem Small.part {l : List UInt8} (h : Small l) (h1 : 1 ≤ l.length) (h2 : l.length ≤ 63) : partB l = true := by
  unfold partB
  have e1 : l.isEmpty = false := by cases l with | nil => simp at h1 | cons a l => rfl
  have e2 : (l.headD 0 == 45) = false := by simpa using (small_facts _ (h.head h1)).2.2.2.2.2.1
  have e3 : (l.getLastD 0 == 45) = false := by simpa using (small_facts _ (h.last h1)).2.2.2.2.2.1
  rw [e1, decide_eq_true h2, h.word, e2, e3]; rfl

theorem mail_inner (a b : List UInt8) (ha : Small a) (hb : Small b) (h1 : 2 ≤ a.length) (h2 : a.length ≤ 32) (h3 : 1 ≤ b.length) (h4 : b.length ≤ 60) :
    addressL (a ++ 64 :: (b ++ 46 :: a)) = false ∧ mailL (a ++ 64 :: (b ++ 46 :: a)) = true := by
  constructor
  · unfold addressL
    have : (a ++ 64 :: (b ++ 46 :: a)).contains 58 = false := by
      have e1 := ha.no 58 (by decide)
      have e2 := hb.no 58 (by decide)
      simp at e1 e2 ⊢; exact ⟨e1, e2, e1⟩
    rw [this]; rfl
  · unfold mailL
    have hc : (a ++ 64 :: (b ++ 46 :: a)).contains 64 = true := by simp
    have ht : (a ++ 64 :: (b ++ 46 :: a)).takeWhile (· != 64) = a := takeWhile_app _ a 64 _ (ha.ne 64 (by decide)) rfl
    have hd : (a ++ 64 :: (b ++ 46 :: a)).dropWhile (· != 64) = 64 :: (b ++ 46 :: a) := by
      rw [List.dropWhile_append_of_pos (ha.ne 64 (by decide))]; rfl
    have he : a.isEmpty = false := by cases a with | nil => simp at h1 | cons x a => rfl
    rw [hc, ht, hd, he, ha.word, List.tail_cons, splitC_app 46 b a (hb.no 46 (by decide)), splitC_out (ha.no 46 (by decide))]
    simp only [List.all_cons, List.all_nil, ha.part (by omega) (by omega), hb.part h3 (by omega)]
    rfl
theorem mail_auto (a b : List UInt8) (ha : Small a) (hb : Small b) (h1 : 2 ≤ a.length) (h2 : a.length ≤ 32) (h3 : 1 ≤ b.length) (h4 : b.length ≤ 60) (r : List UInt8) :
    autoL ((60 :: (a ++ 64 :: (b ++ 46 :: a))) ++ 62 :: r) = ([109, 97, 105, 108, 116, 111, 58] ++ (a ++ 64 :: (b ++ 46 :: a)), a ++ 64 :: (b ++ 46 :: a), (a ++ 64 :: (b ++ 46 :: a)).length + 2) := by
  obtain ⟨i1, i2⟩ := mail_inner a b ha hb h1 h2 h3 h4
  have hq : ∀ x ∈ (60 :: (a ++ 64 :: (b ++ 46 :: a))), (x != 62) = true := by
    intro x hx
    have e1 := ha.ne 62 (by decide)
    have e2 := hb.ne 62 (by decide)
    simp only [List.mem_cons, List.mem_append] at hx
    rcases hx with rfl | hx | rfl | hx | rfl | hx
    · rfl
    · exact e1 x hx
    · rfl
    · exact e2 x hx
    · rfl
    · exact e1 x hx
  rw [autoL_of _ r hq, List.headD_cons, if_pos (show ((60 : UInt8) == 60) = true from rfl), List.tail_cons, i1, i2, if_neg (by decide), if_pos rfl]
  rfl
theorem address_inner (a b : List UInt8) (ha : Small a) (hb : Small b) (h1 : 2 ≤ a.length) (h2 : a.length ≤ 32) : addressL (a ++ 58 :: b) = true := by
  unfold addressL
  have hc : (a ++ 58 :: b).contains 58 = true := by simp
  have ht : (a ++ 58 :: b).takeWhile (· != 58) = a := takeWhile_app _ a 58 _ (ha.ne 58 (by decide)) rfl
  have hd : (a ++ 58 :: b).dropWhile (· != 58) = 58 :: b := by
    rw [List.dropWhile_append_of_pos (ha.ne 58 (by decide))]; rfl
  rw [hc, ht, hd, List.tail_cons, ha.word, hb.rest, decide_eq_true h1, decide_eq_true h2, (small_facts _ (ha.head (by omega))).1]; rfl
theorem address_auto (a b : List UInt8) (ha : Small a) (hb : Small b) (h1 : 2 ≤ a.length) (h2 : a.length ≤ 32) (r : List UInt8) :
    autoL ((60 :: (a ++ 58 :: b)) ++ 62 :: r) = (a ++ 58 :: b, a ++ 58 :: b, (a ++ 58 :: b).length + 2) := by
  have hq : ∀ x ∈ (60 :: (a ++ 58 :: b)), (x != 62) = true := by
    intro x hx
    have e1 := ha.ne 62 (by decide)
    have e2 := hb.ne 62 (by decide)
    simp only [List.mem_cons, List.mem_append] at hx
    rcases hx with rfl | hx | rfl | hx
    · rfl
    · exact e1 x hx
    · rfl
    · exact e2 x hx
  rw [autoL_of _ r hq, List.headD_cons, if_pos (show ((60 : UInt8) == 60) = true from rfl), List.tail_cons, address_inner a b ha hb h1 h2, if_pos rfl]
  rfl
theorem blank_auto (a b : List UInt8) (ha : Small a) (hb : Small b) : (autoL ((60 :: (a ++ 32 :: b)) ++ 62 :: [])) = ([], [], 0) := by
  have hq : ∀ x ∈ (60 :: (a ++ 32 :: b)), (x != 62) = true := by
    intro x hx
    have e1 := ha.ne 62 (by decide)
    have e2 := hb.ne 62 (by decide)
    simp only [List.mem_cons, List.mem_append] at hx
    rcases hx with rfl | hx | rfl | hx
    · rfl
    · exact e1 x hx
    · rfl
    · exact e2 x hx
  have no : ∀ c : UInt8, c.toNat < 97 → c ≠ 32 → (a ++ 32 :: b).contains c = false := by
    intro c hc h32
    have e1 := ha.no c hc
    have e2 := hb.no c hc
    simp at e1 e2 ⊢; exact ⟨e1, h32, e2⟩
  have i1 : addressL (a ++ 32 :: b) = false := by unfold addressL; rw [no 58 (by decide) (by decide)]; rfl
  have i2 : mailL (a ++ 32 :: b) = false := by unfold mailL; rw [no 64 (by decide) (by decide)]; rfl
  rw [autoL_of _ [] hq, List.headD_cons, if_pos (show ((60 : UInt8) == 60) = true from rfl), List.tail_cons, i1, i2, if_neg (by decide), if_neg (by decide)]
theorem takeWhile_all {p : UInt8 → Bool} (Q : List UInt8) (c : UInt8) (u : List UInt8) (h : ∀ x ∈ Q, p x = true) (hc : p c = false) : (Q ++ c :: u).takeWhile p = Q ∧ (Q ++ c :: u).dropWhile p = c :: u := by
  refine ⟨takeWhile_app p Q c u h hc, ?_⟩
  rw [List.dropWhile_append_of_pos h, List.dropWhile_cons, if_neg (by rw [hc]; decide)]
theorem blank_raw (a b : List UInt8) (ha : Small a) (hb : Small b) (h1 : 1 ≤ a.length) (h2 : 1 ≤ b.length) : rawL ((60 :: (a ++ 32 :: b)) ++ 62 :: []) = a.length + b.length + 3 := by
  obtain ⟨x, a', rfl⟩ : ∃ x a', a = x :: a' := by cases a with | nil => simp at h1 | cons x a => exact ⟨x, a, rfl⟩
  obtain ⟨y, b', rfl⟩ : ∃ y b', b = y :: b' := by cases b with | nil => simp at h2 | cons x a => exact ⟨x, a, rfl⟩
  have hx := small_facts x (ha.out x (by simp))
  have hy := small_facts y (hb.out y (by simp))
  have hna : ∀ z ∈ a', nameB z = true := by
    intro z hz; unfold nameB; rw [(small_facts z (ha.out z (by simp [hz]))).1]; rfl
  have hlb : ∀ z ∈ (y :: b'), laterB z = true := by
    intro z hz; unfold laterB firstB; rw [(small_facts z (hb.out z hz)).1]; rfl
  have e1 : tagHead ((x :: a') ++ 32 :: (y :: b') ++ [62]) = (false, (x :: a') ++ 32 :: (y :: b') ++ [62]) := by
    unfold tagHead
    have hh : ((x :: a') ++ 32 :: (y :: b') ++ [62]).headD 0 = x := rfl
    rw [hh, if_neg (show ¬ (x == 47) = true by simpa using hx.2.2.2.2.2.2.1)]
  have e2 : namedL ((x :: a') ++ 32 :: (y :: b') ++ [62]) = (x :: a', 32 :: (y :: b') ++ [62]) := by
    obtain ⟨q1, q2⟩ := takeWhile_all (p := nameB) a' 32 ((y :: b') ++ [62]) hna (by decide)
    unfold namedL
    have hh : ((x :: a') ++ 32 :: (y :: b') ++ [62]).headD 0 = x := rfl
    rw [hh, if_pos (show letterI (x.toNat : Int) = true from hx.1)]
    have ht : ((x :: a') ++ 32 :: (y :: b') ++ [62]).tail = a' ++ 32 :: ((y :: b') ++ [62]) := by simp
    rw [ht, q1, q2]; rfl
  have hyw : whiteS.contains y = false := by
    unfold whiteS
    have n1 := hy.2.2.2.2.2.2.2.1
    have n2 := hy.2.2.2.2.2.2.2.2.1
    have n3 := hy.2.2.2.2.2.2.2.2.2.1
    simp [n1, n2, n3]
  have w1 : whiteL (32 :: (y :: b') ++ [62]) = (y :: b') ++ [62] := by
    unfold whiteL cutL
    rw [List.cons_append, List.dropWhile_cons, if_pos (by decide), List.cons_append, List.dropWhile_cons, if_neg (by rw [hyw]; decide)]
  have e3 : attributeL (32 :: (y :: b') ++ [62]) = (true, true, [62]) := by
    obtain ⟨_, q2⟩ := takeWhile_all (p := laterB) (y :: b') 62 [] hlb (by decide)
    unfold attributeL
    rw [w1, if_pos ⟨by simp, by show firstB y = true; unfold firstB; rw [hy.1]; rfl⟩, q2]
    rfl
  have e4 : attributeL [62] = (false, true, [62]) := rfl
  have e5 : ∀ f, attrsL (f + 2) (32 :: (y :: b') ++ [62]) = (true, [62]) := by
    intro f
    rw [attrsL, e3]
    show attrsL (f + 1) [62] = _
    rw [attrsL, e4]; rfl
  have e6 : tagRest ((60 :: ((x :: a') ++ 32 :: (y :: b'))) ++ 62 :: []) = some [] := by
    have t1 : ((60 :: ((x :: a') ++ 32 :: (y :: b'))) ++ 62 :: []).tail = (x :: a') ++ 32 :: (y :: b') ++ [62] := rfl
    unfold tagRest
    rw [if_pos (by rfl), t1, e1]
    simp only
    rw [e2]
    simp only
    have m : tagMid false (32 :: (y :: b') ++ [62]) = (true, [62]) := by
      unfold tagMid
      rw [if_neg (by decide)]
      have : (32 :: (y :: b') ++ [62]).length + 1 = (b'.length + 2) + 2 := by simp
      rw [this, e5]
    rw [m]
    rfl
  have e7 : tagL ((60 :: ((x :: a') ++ 32 :: (y :: b'))) ++ 62 :: []) = (x :: a').length + (y :: b').length + 3 := by
    unfold tagL; rw [e6]; simp; omega
  unfold rawL
  rw [if_pos (by rw [e7]; omega), e7]

end Go.Proofs.YtgamlckdjfjobaaDoor
