/- Plain laws on codes, addresses and HTML at a text's beginning: no program. -/
import Derived.Test.YtgamlckdjfjobaaDoorRaw
namespace Go.Proofs.YtgamlckdjfjobaaDoor

theorem takeWhile_get {α : Type} (p : α → Bool) : ∀ (l : List α) (i : Nat) (a : α), i < (l.takeWhile p).length → l[i]? = some a → p a = true
  | [], i, a, h, _ => by simp at h
  | b :: l, i, a, h, e => by
    rw [List.takeWhile_cons] at h
    by_cases hb : p b = true
    · rw [if_pos hb] at h
      cases i with
      | zero => simp at e; rw [← e]; exact hb
      | succ i => exact takeWhile_get p l i a (by simpa using h) (by simpa using e)
    · rw [if_neg hb] at h; simp at h
theorem takeWhile_at {α : Type} (p : α → Bool) : ∀ (l : List α) (a : α), l[(l.takeWhile p).length]? = some a → p a = false
  | [], a, e => by simp at e
  | b :: l, a, e => by
    rw [List.takeWhile_cons] at e
    by_cases hb : p b = true
    · rw [if_pos hb] at e; exact takeWhile_at p l a (by simpa using e)
    · rw [if_neg hb] at e; simp at e; rw [← e]; simpa using hb

theorem runL_get (l : List UInt8) (i : Nat) (h : i < runL l) : l[i]? = some (l.headD 0) := by
  have hl := runL_le l
  have e : l[i]? = some l[i] := List.getElem?_eq_getElem (by omega)
  have := takeWhile_get (· == l.headD 0) l i l[i] h e
  rw [e]; congr 1; simpa using this
theorem runL_at (l : List UInt8) (a : UInt8) (h : l[runL l]? = some a) : a ≠ l.headD 0 := by
  have := takeWhile_at (· == l.headD 0) l a h
  simpa using this
theorem runL_is (l : List UInt8) (n : Nat) (c : UInt8) (hc : l.headD 0 = c) (h0 : 0 < n) (h1 : ∀ i, i < n → l[i]? = some c) (h2 : l[n]? ≠ some c) : runL l = n := by
  unfold runL
  rw [hc]
  refine takeWhile_stop _ l n ?_ ?_ ?_
  · have := h1 (n - 1) (by omega)
    have := (List.getElem?_eq_some_iff.mp this).1; omega
  · rw [List.all_eq_true]
    intro x hx
    obtain ⟨i, hi, e⟩ := List.mem_iff_getElem.mp hx
    rw [List.length_take] at hi
    have := h1 i (by omega)
    rw [List.getElem_take] at e
    rw [List.getElem?_eq_getElem (by omega)] at this
    have := Option.some.inj this
    rw [e] at this
    simp [this]
  · intro a ha
    simp
    rintro rfl
    exact h2 ha

/-- What codeGo finds: just n ticks, none ahead of them and none behind. -/
structure CodeAt (n : Nat) (l : List UInt8) (p : Nat) : Prop where
  pos : 1 ≤ p
  len : p + n ≤ l.length
  tick : ∀ i, i < n → l[p + i]? = some 96
  stop : l[p + n]? ≠ some 96
  ahead : l[p - 1]? ≠ some 96

theorem codeGo_at (n : Nat) : ∀ (f : Nat) (l : List UInt8) (p : Nat), l.headD 0 ≠ 96 → codeGo n f l = some p → CodeAt n l p
  | 0, l, p, _, h => by simp [codeGo] at h
  | f + 1, l, p, h0, h => by
    rw [codeGo] at h
    by_cases hc : l.contains 96 = true
    · rw [if_pos hc] at h
      have hk : 1 ≤ (l.takeWhile (· != 96)).length := by
        cases l with
        | nil => simp at hc
        | cons a l =>
          have : (a != 96) = true := by simpa using h0
          rw [List.takeWhile_cons, if_pos this]; simp
      have hd := drop_at hc
      have hhd := headD_drop l hc
      have hlt := takeWhile_lt hc
      obtain ⟨k, hke⟩ : ∃ k, (l.takeWhile (· != 96)).length = k := ⟨_, rfl⟩
      rw [hke] at h hk hd hhd hlt
      have hm0 : 0 < runL (l.drop k) := runL_pos _ (by rw [hd]; simp)
      have hml := runL_le (l.drop k)
      have hmg := runL_get (l.drop k)
      have hma := runL_at (l.drop k)
      rw [hhd] at hmg hma
      rw [List.length_drop] at hml
      obtain ⟨m, hme⟩ : ∃ m, runL (l.drop k) = m := ⟨_, rfl⟩
      rw [hme] at h hm0 hml hmg hma
      by_cases hmn : m = n
      · rw [if_pos hmn] at h
        obtain rfl := Option.some.inj h
        subst hmn
        refine ⟨hk, by omega, fun i hi => by rw [← hmg i hi, List.getElem?_drop], fun e => ?_, fun e => ?_⟩
        · refine hma 96 ?_ rfl
          rw [List.getElem?_drop]; exact e
        · have := takeWhile_get (· != 96) l (k - 1) 96 (by omega) e
          simp at this
      · rw [if_neg hmn] at h
        cases hg : codeGo n f (l.drop (k + m)) with
        | none => rw [hg] at h; cases h
        | some q =>
          rw [hg] at h
          have hq : q + (k + m) = p := Option.some.inj h
          have hh : (l.drop (k + m)).headD 0 ≠ 96 := by
            rw [List.headD_eq_head?_getD, List.head?_drop]
            intro e
            cases hx : l[k + m]? with
            | none => rw [hx] at e; exact absurd e (by decide)
            | some a =>
              rw [hx] at e
              have e2 : a = 96 := e
              refine hma a ?_ e2
              rw [List.getElem?_drop]; exact hx
          have ih := codeGo_at n f _ q hh hg
          have hlen := ih.len
          rw [List.length_drop] at hlen
          have hpos := ih.pos
          subst hq
          refine ⟨by omega, by omega, fun i hi => ?_, fun e => ih.stop ?_, fun e => ih.ahead ?_⟩
          · rw [← ih.tick i hi, List.getElem?_drop]; congr 1; omega
          · rw [List.getElem?_drop, ← e]; congr 1; omega
          · rw [List.getElem?_drop, ← e]; congr 1; omega
    · rw [if_neg hc] at h; cases h

theorem drop_run_head (l : List UInt8) : (l.drop (runL l)).headD 0 ≠ 96 ∨ l.headD 0 ≠ 96 := by
  by_cases h : l.headD 0 = 96
  · left
    rw [List.headD_eq_head?_getD, List.head?_drop]
    intro e
    cases hx : l[runL l]? with
    | none => rw [hx] at e; exact absurd e (by decide)
    | some a =>
      rw [hx] at e
      have e2 : a = 96 := e
      exact runL_at l a hx (by rw [h]; exact e2)
  · exact Or.inr h

/-- What a code's length is. -/
structure CodeLen (l : List UInt8) (n : Nat) : Prop where
  big : 2 * runL l + 1 ≤ n
  len : n ≤ l.length
  tick : ∀ i, i < runL l → l[n - 1 - i]? = some 96
  stop : l[n]? ≠ some 96
  ahead : l[n - 1 - runL l]? ≠ some 96
  head : l.headD 0 = 96

theorem codeL_len (l : List UInt8) (h : 0 < (codeL l).2) : CodeLen l (codeL l).2 := by
  unfold codeL at *
  by_cases h0 : (l.headD 0 == 96) = true
  · rw [if_pos h0] at h ⊢
    have h0' : l.headD 0 = 96 := by simpa using h0
    cases hg : codeGo (runL l) (l.length + 1) (l.drop (runL l)) with
    | none => rw [hg] at h; exact absurd h (by simp)
    | some p =>
      have hd : (l.drop (runL l)).headD 0 ≠ 96 := by
        rcases drop_run_head l with e | e
        · exact e
        · exact absurd h0' e
      have c := codeGo_at (runL l) _ _ p hd hg
      have hr := runL_le l
      have hlen := c.len
      rw [List.length_drop] at hlen
      have hpos := c.pos
      show CodeLen l (runL l + p + runL l)
      refine ⟨by omega, by omega, fun i hi => ?_, fun e => c.stop ?_, fun e => c.ahead ?_, h0'⟩
      · have := c.tick (runL l - 1 - i) (by omega)
        rw [List.getElem?_drop] at this
        rw [← this]; congr 1; omega
      · rw [List.getElem?_drop, ← e]; congr 1; omega
      · rw [List.getElem?_drop, ← e]; congr 1; omega
  · rw [if_neg h0] at h; exact absurd h (by simp)
theorem codeL_le (l : List UInt8) : (codeL l).2 ≤ l.length := by
  rcases Nat.eq_zero_or_pos (codeL l).2 with h | h
  · omega
  · exact (codeL_len l h).len

theorem autoL_le (l : List UInt8) : (autoL l).2.2 ≤ l.length := by
  unfold autoL
  by_cases h : (l.contains 62 && l.headD 0 == 60) = true
  · rw [if_pos h]
    rw [Bool.and_eq_true] at h
    have := takeWhile_lt h.1
    split
    · exact this
    · split
      · exact this
      · simp
  · rw [if_neg h]; simp

theorem betweenL_le (b e l : List UInt8) (hb : b.length ≤ l.length) : betweenL b e l ≤ l.length := by
  unfold betweenL
  split
  · rename_i h
    have := Lib.index_room (l.drop b.length) e h
    rw [List.length_drop] at this
    omega
  · omega
theorem hasPrefix_le {l p : List UInt8} (h : Lib.hasPrefix l p = true) : p.length ≤ l.length := (List.isPrefixOf_iff_prefix.mp h).length_le
theorem rawL_le (l : List UInt8) : rawL l ≤ l.length := by
  unfold rawL
  repeat' split
  · exact tagL_le l
  · rename_i h; have := hasPrefix_le h; simpa using this
  · rename_i h; have := hasPrefix_le h; simpa using this
  · rename_i h
    refine betweenL_le _ _ _ ?_
    unfold isDecl at h
    simp at h
    simp; omega
  · rename_i h; exact betweenL_le _ _ _ (hasPrefix_le h)
  · rename_i h; exact betweenL_le _ _ _ (hasPrefix_le h)
  · rename_i h; exact betweenL_le _ _ _ (hasPrefix_le h)
  · omega

end Go.Proofs.YtgamlckdjfjobaaDoor
