/- Plain laws: a text between some ticks: no program. -/
import Derived.Test.YtgamlckdjfjobaaDoorPlain12
namespace Go.Proofs.YtgamlckdjfjobaaDoor

theorem rep_get (k i : Nat) (r : List UInt8) (h : i < k) : (List.replicate k (96 : UInt8) ++ r)[i]? = some 96 := by
  rw [List.getElem?_append_left (by simpa using h), List.getElem?_replicate, if_pos h]
theorem rep_at (k : Nat) (r : List UInt8) (h : r.headD 0 ≠ 96) : (List.replicate k (96 : UInt8) ++ r)[k]? ≠ some 96 := by
  rw [List.getElem?_append_right (by simp)]
  simp only [List.length_replicate, Nat.sub_self]
  cases r with
  | nil => simp
  | cons a r => intro e; exact h (by simpa using e)
theorem rep_head (k : Nat) (r : List UInt8) (h : 0 < k) : (List.replicate k (96 : UInt8) ++ r).headD 0 = 96 := by
  obtain ⟨m, rfl⟩ : ∃ m, k = m + 1 := ⟨k - 1, by omega⟩
  rfl
theorem run_rep (k : Nat) (r : List UInt8) (hk : 0 < k) (h : r.headD 0 ≠ 96) : runL (List.replicate k 96 ++ r) = k :=
  runL_is _ k 96 (rep_head k r hk) hk (fun i hi => rep_get k i r hi) (rep_at k r h)

theorem takeWhile_app0 : ∀ (Q u : List UInt8), (∀ x ∈ Q, (x != 96) = true) → (Q ++ 96 :: u).takeWhile (· != 96) = Q
  | [], u, _ => by simp
  | a :: Q, u, h => by
    have h1 : (a != 96) = true := h a (by simp)
    rw [List.cons_append, List.takeWhile_cons, if_pos h1, takeWhile_app0 Q u (fun x hx => h x (List.mem_cons_of_mem _ hx))]
theorem codeGo_step (n m f : Nat) (s r : List UInt8) (hs : s.contains 96 = false) (hm : 0 < m) (hr : r.headD 0 ≠ 96) :
    codeGo n (f + 1) (s ++ (List.replicate m 96 ++ r)) = if m = n then some s.length else (codeGo n f r).map (· + (s.length + m)) := by
  obtain ⟨j, rfl⟩ : ∃ j, m = j + 1 := ⟨m - 1, by omega⟩
  have hsx : ∀ x ∈ s, (x != 96) = true := by
    intro x hx; simp; rintro rfl; simp at hs; exact hs hx
  have ht : (s ++ (List.replicate (j + 1) 96 ++ r)).takeWhile (· != 96) = s := by
    rw [List.replicate_succ, List.cons_append]; exact takeWhile_app0 s _ hsx
  have hc : (s ++ (List.replicate (j + 1) 96 ++ r)).contains 96 = true := by
    rw [List.replicate_succ]; simp
  rw [codeGo, if_pos hc, ht, List.drop_left, run_rep (j + 1) r (by omega) hr]
  have hd : (s ++ (List.replicate (j + 1) 96 ++ r)).drop (s.length + (j + 1)) = r := by
    rw [← List.append_assoc, List.drop_left' (by simp)]
  rw [hd]

structure Bare (s : List UInt8) : Prop where
  ne : s ≠ []
  tick : s.contains 96 = false
  feed : s.contains 10 = false
theorem Bare.head {s : List UInt8} (h : Bare s) (r : List UInt8) : (s ++ r).headD 0 ≠ 96 := by
  cases s with
  | nil => exact absurd rfl h.ne
  | cons a s =>
    intro e
    have e2 : a = 96 := e
    have := h.tick
    rw [e2] at this
    simp at this
theorem lf_bare {s : List UInt8} (h : s.contains 10 = false) : lf s = s := by
  unfold lf
  rw [List.map_congr_left (g := id)]
  · simp
  · intro a ha
    have : (a == 10) = false := by simp; rintro rfl; simp at h; exact h ha
    rw [this]; rfl
/-- What a code says of a text without line ends. -/
def wantL (s : List UInt8) : List UInt8 := if s.any (· != 32) && s.headD 0 == 32 && s.getLastD 0 == 32 then s.tail.dropLast else s
theorem strip_bare {s : List UInt8} (h : s.contains 10 = false) : stripL s = wantL s := by
  unfold stripL wantL; rw [lf_bare h]
theorem strip_len (l : List UInt8) : l.length ≤ (stripL l).length + 2 := by
  unfold stripL
  split
  · rw [List.length_dropLast, List.length_tail]; simp [lf]; omega
  · simp [lf]

theorem codeL_rep (k : Nat) (R : List UInt8) (hk : 0 < k) (hR : R.headD 0 ≠ 96) : codeL (List.replicate k 96 ++ R) = match codeGo k ((List.replicate k 96 ++ R).length + 1) R with
    | none => ([], 0)
    | some p => (stripL (R.take p), k + p + k) := by
  unfold codeL
  have hd : (List.replicate k (96 : UInt8) ++ R).drop k = R := List.drop_left' (by simp)
  rw [if_pos (by rw [rep_head k R hk]; rfl), run_rep k R hk hR, hd]
  cases codeGo k ((List.replicate k (96 : UInt8) ++ R).length + 1) R <;> rfl

theorem codes_one (k : Nat) (s more : List UInt8) (hk : 0 < k) (h : Bare s) :
    codeL (List.replicate k 96 ++ (s ++ (List.replicate k 96 ++ 120 :: more))) = (wantL s, s.length + 2 * k) := by
  rw [codeL_rep k _ hk (h.head _)]
  rw [codeGo_step k k _ s (120 :: more) h.tick hk (by simp), if_pos rfl]
  simp only
  rw [List.take_left, strip_bare h.feed]
  congr 1; omega
theorem codes_two (k : Nat) (s : List UInt8) (hk : 0 < k) (h : Bare s) :
    codeL (List.replicate k 96 ++ (s ++ (List.replicate (k + 1) 96 ++ []))) = ([], 0) := by
  rw [codeL_rep k _ hk (h.head _)]
  rw [codeGo_step k (k + 1) _ s [] h.tick (by omega) (by simp), if_neg (by omega)]
  have : ∀ f, codeGo k f [] = none := by intro f; cases f <;> simp [codeGo]
  rw [this]; rfl
theorem codes_three (k : Nat) (s : List UInt8) (hk : 0 < k) (h : Bare s) :
    (codeL (List.replicate k 96 ++ (s ++ (List.replicate (k + 1) 96 ++ (s ++ (List.replicate k 96 ++ [])))))).2 = 2 * s.length + 3 * k + 1 ∧
    s.length < (codeL (List.replicate k 96 ++ (s ++ (List.replicate (k + 1) 96 ++ (s ++ (List.replicate k 96 ++ [])))))).1.length := by
  have hsl : 1 ≤ s.length := by
    have := h.ne
    cases s with
    | nil => exact absurd rfl this
    | cons a s => simp
  rw [codeL_rep k _ hk (h.head _)]
  rw [codeGo_step k (k + 1) _ s _ h.tick (by omega) (h.head _), if_neg (by omega)]
  have hf : (List.replicate k (96 : UInt8) ++ (s ++ (List.replicate (k + 1) 96 ++ (s ++ (List.replicate k 96 ++ []))))).length = (k + s.length + k + s.length + k) + 1 := by simp; omega
  rw [hf]
  rw [codeGo_step k k _ s [] h.tick hk (by simp), if_pos rfl]
  simp only [Option.map_some]
  refine ⟨by omega, ?_⟩
  have hl := strip_len ((s ++ (List.replicate (k + 1) 96 ++ (s ++ (List.replicate k 96 ++ [])))).take (s.length + (s.length + (k + 1))))
  rw [List.length_take] at hl
  have : (s ++ (List.replicate (k + 1) (96 : UInt8) ++ (s ++ (List.replicate k 96 ++ [])))).length = s.length + (k + 1) + s.length + k := by simp; omega
  rw [this] at hl
  omega

end Go.Proofs.YtgamlckdjfjobaaDoor
