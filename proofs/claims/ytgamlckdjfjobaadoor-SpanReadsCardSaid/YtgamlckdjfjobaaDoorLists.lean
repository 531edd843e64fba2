/- Plain lemmas on lists of bytes: no program. -/
import Derived.Lib.Strings
import Derived.Lib.Bytealg
import Derived.Lib.Index
import Derived.Lib.IndexMore
import Derived.Lib.Split
import Derived.Lib.SplitLaws
import Derived.Lib.Replace
import Derived.Lib.TrimByte
namespace Go.Proofs.YtgamlckdjfjobaaDoor

theorem takeWhile_stop {α : Type} (p : α → Bool) : ∀ (l : List α) (k : Nat), k ≤ l.length → (l.take k).all p = true → (∀ a, l[k]? = some a → p a = false) → (l.takeWhile p).length = k
  | [], k, hk, _, _ => by simp at hk; simp [hk]
  | a :: l, 0, _, _, h => by
    have := h a rfl
    simp [this]
  | a :: l, k + 1, hk, ha, h => by
    simp at ha
    have h2 := takeWhile_stop p l k (by simpa using hk) (by simpa using ha.2) (by simpa using h)
    simp [ha.1, h2]

/-- How many bytes like its first one a text begins with. -/
def runL (l : List UInt8) : Nat := (l.takeWhile (· == l.headD 0)).length
theorem runL_le (l : List UInt8) : runL l ≤ l.length := by
  unfold runL; exact (List.takeWhile_sublist _).length_le

/-! ### the library's words at one byte -/
theorem index_one (c : UInt8) : ∀ l : List UInt8, Lib.index l [c] = Lib.indexByte l c
  | [] => rfl
  | b :: l => by
    unfold Lib.index Lib.indexByte
    rw [index_one c l]
    have e : ([c] : List UInt8).isPrefixOf (b :: l) = (b == c) := by
      simp [List.isPrefixOf]
      rw [Bool.eq_iff_iff]; simp; exact ⟨fun h => h.symm, fun h => h.symm⟩
    rw [e]

theorem indexByte_eq (c : UInt8) : ∀ l : List UInt8, Lib.indexByte l c = if l.contains c then ((l.takeWhile (· != c)).length : Int) else -1
  | [] => rfl
  | b :: l => by
    unfold Lib.indexByte
    rw [indexByte_eq c l]
    by_cases h : b = c
    · subst h; simp
    · have h1 : (b == c) = false := by simpa using h
      have h2 : (b != c) = true := by simpa using h
      have h3 : (c == b) = false := by simpa using fun e => h e.symm
      rw [List.contains_cons, h3, Bool.false_or, h1]
      by_cases h4 : l.contains c = true
      · rw [if_pos h4, if_pos h4, List.takeWhile_cons, h2]
        simp
      · rw [if_neg h4, if_neg h4]; simp

theorem indexByte_in {c : UInt8} {l : List UInt8} (h : l.contains c = true) : Lib.indexByte l c = ((l.takeWhile (· != c)).length : Int) := by
  rw [indexByte_eq, if_pos h]
theorem indexByte_out {c : UInt8} {l : List UInt8} (h : l.contains c = false) : Lib.indexByte l c = -1 := by
  rw [indexByte_eq, if_neg (by rw [h]; decide)]

theorem takeWhile_lt {c : UInt8} : ∀ {l : List UInt8}, l.contains c = true → (l.takeWhile (· != c)).length < l.length
  | [], h => by simp at h
  | b :: l, h => by
    by_cases e : b = c
    · subst e; simp
    · have h2 : (b != c) = true := by simpa using e
      rw [List.takeWhile_cons, h2]
      have h3 : (c == b) = false := by simpa using fun k => e k.symm
      rw [List.contains_cons, h3, Bool.false_or] at h
      have := takeWhile_lt h
      simp
      omega

theorem split_at {c : UInt8} : ∀ {l : List UInt8}, l.contains c = true → l = l.takeWhile (· != c) ++ c :: (l.dropWhile (· != c)).tail
  | [], h => by simp at h
  | b :: l, h => by
    by_cases e : b = c
    · subst e; simp
    · have h2 : (b != c) = true := by simpa using e
      have h3 : (c == b) = false := by simpa using fun k => e k.symm
      rw [List.contains_cons, h3, Bool.false_or] at h
      rw [List.takeWhile_cons, List.dropWhile_cons, h2]
      simp
      exact split_at h

theorem takeWhile_take {α : Type} (p : α → Bool) (l : List α) : l.take (l.takeWhile p).length = l.takeWhile p := by
  have h := List.takeWhile_append_dropWhile (p := p) (l := l)
  calc l.take (l.takeWhile p).length = (l.takeWhile p ++ l.dropWhile p).take (l.takeWhile p).length := by rw [h]
    _ = l.takeWhile p := List.take_left
theorem takeWhile_drop {α : Type} (p : α → Bool) (l : List α) : l.drop (l.takeWhile p).length = l.dropWhile p := by
  have h := List.takeWhile_append_dropWhile (p := p) (l := l)
  calc l.drop (l.takeWhile p).length = (l.takeWhile p ++ l.dropWhile p).drop (l.takeWhile p).length := by rw [h]
    _ = l.dropWhile p := List.drop_left
theorem takeWhile_drop1 {α : Type} (p : α → Bool) (l : List α) : l.drop ((l.takeWhile p).length + 1) = (l.dropWhile p).tail := by
  rw [← List.drop_drop, takeWhile_drop, List.drop_one]

theorem cut_one (c : UInt8) (l : List UInt8) : Lib.cut l [c] = if l.contains c then (l.takeWhile (· != c), (l.dropWhile (· != c)).tail, true) else (l, [], false) := by
  unfold Lib.cut
  rw [index_one]
  by_cases h : l.contains c = true
  · rw [indexByte_in h, if_pos h, if_pos (by omega)]
    simp [takeWhile_take, takeWhile_drop1]
  · rw [if_neg h, indexByte_out (by simpa using h), if_neg (by decide)]

/-- The parts of a text between a byte. -/
def splitC (c : UInt8) : List UInt8 → List (List UInt8)
  | [] => [[]]
  | b :: l => if b == c then [] :: splitC c l else match splitC c l with
    | [] => [[b]]
    | h :: t => (b :: h) :: t
theorem splitC_ne (c : UInt8) : ∀ l, splitC c l ≠ []
  | [] => by simp [splitC]
  | b :: l => by
    unfold splitC
    split
    · simp
    · split <;> simp
theorem splitC_le (c : UInt8) : ∀ (l x : List UInt8), x ∈ splitC c l → x.length ≤ l.length
  | [], x, h => by simp [splitC] at h; simp [h]
  | b :: l, x, h => by
    unfold splitC at h
    split at h
    · rcases List.mem_cons.mp h with rfl | h
      · simp
      · have := splitC_le c l x h; simp; omega
    · split at h
      · rename_i e; exact absurd e (splitC_ne c l)
      · rename_i y t e
        rcases List.mem_cons.mp h with rfl | h
        · have := splitC_le c l y (by rw [e]; simp); simp; omega
        · have := splitC_le c l x (by rw [e]; exact List.mem_cons_of_mem _ h); simp; omega
theorem splitC_out {c : UInt8} : ∀ {l : List UInt8}, l.contains c = false → splitC c l = [l]
  | [], _ => rfl
  | b :: l, h => by
    rw [List.contains_cons, Bool.or_eq_false_iff] at h
    have h1 : (b == c) = false := by
      have := h.1; simp at this ⊢; exact fun e => this e.symm
    rw [splitC, h1, splitC_out h.2]
    rfl
theorem splitC_app (c : UInt8) : ∀ (p l : List UInt8), p.contains c = false → splitC c (p ++ c :: l) = p :: splitC c l
  | [], l, _ => by simp [splitC]
  | b :: p, l, h => by
    rw [List.contains_cons, Bool.or_eq_false_iff] at h
    have h1 : (b == c) = false := by
      have := h.1; simp at this ⊢; exact fun e => this e.symm
    rw [List.cons_append, splitC, h1, splitC_app c p l h.2]
    rfl
theorem takeWhile_not {c : UInt8} : ∀ (l : List UInt8), (l.takeWhile (· != c)).contains c = false
  | [] => rfl
  | b :: l => by
    rw [List.takeWhile_cons]
    by_cases e : b = c
    · subst e; simp
    · have h2 : (b != c) = true := by simpa using e
      have h3 : (c == b) = false := by simpa using fun k => e k.symm
      rw [h2]
      simp only [if_true]
      rw [List.contains_cons, h3, takeWhile_not l]; rfl

theorem splitK_one (c : UInt8) : ∀ (k : Nat) (l : List UInt8), l.count c = k → Lib.splitK [c] 0 k l = splitC c l
  | 0, l, h => by
    have : l.contains c = false := by
      rw [List.count_eq_zero] at h; simpa using h
    rw [splitC_out this]; rfl
  | k + 1, l, h => by
    have hc : l.contains c = true := by
      have : 0 < l.count c := by omega
      rw [List.count_pos_iff] at this; simpa using this
    have e := split_at hc
    have hn : ¬ (Lib.index l [c] == -1) = true := by rw [index_one, indexByte_in hc]; simp
    rw [Lib.splitK, if_neg hn, index_one, indexByte_in hc]
    have hk : (l.dropWhile (· != c)).tail.count c = k := by
      rw [e, List.count_append, List.count_cons_self] at h
      have : (l.takeWhile (· != c)).count c = 0 := by
        rw [List.count_eq_zero]; have := takeWhile_not (c := c) l; simpa using this
      omega
    have e2 : splitC c l = l.takeWhile (· != c) :: splitC c (l.dropWhile (· != c)).tail := by
      conv => lhs; rw [e]
      exact splitC_app c _ _ (takeWhile_not l)
    rw [e2, ← splitK_one c k _ hk]
    simp [takeWhile_take, takeWhile_drop1]

theorem replaceK_one (c d : UInt8) : ∀ (k : Nat) (l : List UInt8), l.count c = k → Lib.replaceK [c] [d] k l = l.map fun b => if b == c then d else b
  | 0, l, h => by
    have h2 : c ∉ l := by rwa [List.count_eq_zero] at h
    rw [Lib.replaceK]
    symm
    rw [List.map_congr_left (g := id)]
    · simp
    · intro a ha
      have : (a == c) = false := by simp; rintro rfl; exact h2 ha
      rw [this]; rfl
  | k + 1, l, h => by
    have hc : l.contains c = true := by
      have : 0 < l.count c := by omega
      rw [List.count_pos_iff] at this; simpa using this
    have e := split_at hc
    have hn : ¬ (Lib.index l [c] == -1) = true := by rw [index_one, indexByte_in hc]; simp
    rw [Lib.replaceK, if_neg hn, index_one, indexByte_in hc]
    have h0 : (l.takeWhile (· != c)).count c = 0 := by
      rw [List.count_eq_zero]; have := takeWhile_not (c := c) l; simpa using this
    have hk : (l.dropWhile (· != c)).tail.count c = k := by
      rw [e, List.count_append, List.count_cons_self] at h
      omega
    have ih := replaceK_one c d k _ hk
    have i0 := replaceK_one c d 0 _ h0
    rw [Lib.replaceK] at i0
    conv => rhs; rw [e, List.map_append, List.map_cons, ← i0, ← ih]
    simp [takeWhile_take, takeWhile_drop1]

theorem replaceAll_one (c d : UInt8) (hcd : c ≠ d) (l : List UInt8) : Lib.replaceAll l [c] [d] = l.map fun b => if b == c then d else b := by
  unfold Lib.replaceAll Lib.replace
  have h1 : ¬ (([c] : List UInt8) == [d]) = true := by simpa using hcd
  rw [if_neg h1, Lib.replaceNum, if_pos (Or.inl (by decide)), Lib.count_one]
  exact replaceK_one c d _ l rfl

/-! ### span.Code -/
def lf (l : List UInt8) : List UInt8 := l.map fun b => if b == 10 then 32 else b
/-- A code's text. -/
def stripL (l : List UInt8) : List UInt8 :=
  if (lf l).any (· != 32) && (lf l).headD 0 == 32 && (lf l).getLastD 0 == 32 then (lf l).tail.dropLast else lf l

theorem dropWhile_nil {α : Type} (p : α → Bool) : ∀ l : List α, l.dropWhile p = [] ↔ ∀ x ∈ l, p x = true
  | [] => by simp
  | a :: l => by
    rw [List.dropWhile_cons]
    by_cases h : p a = true
    · rw [if_pos h, dropWhile_nil p l]; simp [h]
    · rw [if_neg h]; simp [h]
theorem trimB_nil (c : UInt8) (l : List UInt8) : Lib.trimB l c = [] ↔ l.any (· != c) = false := by
  unfold Lib.trimB Lib.trimLeftB Lib.trimRightB
  constructor
  · intro h
    rw [List.any_eq_false]
    intro x hx hne
    have h1 : ∀ y ∈ (l.reverse.dropWhile (· == c)).reverse, (y == c) = true := by
      intro y hy
      exact ((dropWhile_nil _ _).mp h) y hy
    have h2 : x ∈ l.reverse.dropWhile (· == c) ∨ x = c := by
      have hx' : x ∈ l.reverse := by simpa using hx
      rw [← List.takeWhile_append_dropWhile (p := (· == c)) (l := l.reverse)] at hx'
      rcases List.mem_append.mp hx' with h | h
      · right
        have := List.all_takeWhile (p := (· == c)) (l := l.reverse)
        rw [List.all_eq_true] at this
        simpa using this x h
      · exact Or.inl h
    rcases h2 with h2 | h2
    · have := h1 x (by simpa using h2)
      simp at this hne; exact hne this
    · simp at hne; exact hne h2
  · intro h
    rw [List.any_eq_false] at h
    have : l.reverse.dropWhile (· == c) = [] := by
      rw [dropWhile_nil]
      intro x hx
      have := h x (by simpa using hx)
      simpa using this
    rw [this]; rfl

/-- The place of the first run of just n ticks. -/
def codeGo (n : Nat) : Nat → List UInt8 → Option Nat
  | 0, _ => none
  | f + 1, l => if l.contains 96 then
      if runL (l.drop (l.takeWhile (· != 96)).length) = n then some (l.takeWhile (· != 96)).length
      else (codeGo n f (l.drop ((l.takeWhile (· != 96)).length + runL (l.drop (l.takeWhile (· != 96)).length)))).map (· + ((l.takeWhile (· != 96)).length + runL (l.drop (l.takeWhile (· != 96)).length)))
    else none
/-- A code's text, and how long all of it is. -/
def codeL (l : List UInt8) : List UInt8 × Nat :=
  if l.headD 0 == 96 then match codeGo (runL l) (l.length + 1) (l.drop (runL l)) with
    | none => ([], 0)
    | some p => (stripL ((l.drop (runL l)).take p), runL l + p + runL l)
  else ([], 0)

theorem drop_at {c : UInt8} {l : List UInt8} (h : l.contains c = true) : l.drop (l.takeWhile (· != c)).length = c :: (l.dropWhile (· != c)).tail := by
  have e := congrArg (List.drop (l.takeWhile (· != c)).length) (split_at h)
  rw [List.drop_left] at e
  exact e
theorem headD_drop (l : List UInt8) (h : l.contains 96 = true) : (l.drop (l.takeWhile (· != 96)).length).headD 0 = 96 := by
  rw [drop_at h]; rfl
theorem runL_pos (l : List UInt8) (h : l ≠ []) : 0 < runL l := by
  cases l with
  | nil => exact absurd rfl h
  | cons a l => simp [runL]

end Go.Proofs.YtgamlckdjfjobaaDoor
