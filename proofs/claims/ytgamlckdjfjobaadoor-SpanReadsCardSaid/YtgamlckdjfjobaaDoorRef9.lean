/- The contract of the reference's Code. -/
import Derived.Test.YtgamlckdjfjobaaDoorRef8
import Derived.Lib.ConvBytes
import Derived.Laws.IdiomStrings
namespace Go.Proofs.YtgamlckdjfjobaaDoor
open Go.RowKit

theorem codeGo_tick (n f : Nat) (l : List UInt8) (h : (l.headD 0 == 96) = true) :
    codeGo n (f + 1) l = if runL l = n then some 0 else (codeGo n f (l.drop (runL l))).map (· + runL l) := by
  cases l with
  | nil => exact absurd h (by decide)
  | cons a l =>
    have ha : a = 96 := by simpa using h
    subst ha
    rw [codeGo, if_pos (by simp)]
    have e : ((96 :: l).takeWhile (· != 96)) = [] := by rw [List.takeWhile_cons, if_neg (by decide)]
    rw [e]
    simp
theorem codeGo_pass (n f : Nat) (a : UInt8) (l : List UInt8) (h : (a == 96) = false) :
    codeGo n (f + 1) (a :: l) = (codeGo n (f + 1) l).map (· + 1) := by
  have hc : (a :: l).contains 96 = l.contains 96 := by
    rw [List.contains_cons, show (96 == a) = false by rw [← h]; exact Bool.beq_comm, Bool.false_or]
  have ht : ((a :: l).takeWhile (· != 96)) = a :: l.takeWhile (· != 96) := by rw [List.takeWhile_cons, if_pos (by simp [bne, h])]
  rw [codeGo, codeGo, hc, ht]
  by_cases h1 : l.contains 96 = true
  · rw [if_pos h1, if_pos h1]
    simp only [List.length_cons, List.drop_succ_cons]
    have e : (l.takeWhile (· != 96)).length + 1 + runL (l.drop (l.takeWhile (· != 96)).length) = (l.takeWhile (· != 96)).length + runL (l.drop (l.takeWhile (· != 96)).length) + 1 := by omega
    split
    · rfl
    · rw [e, List.drop_succ_cons, Option.map_map]
      congr 1
  · rw [if_neg h1, if_neg h1]; rfl

/-- Block B holds the bytes l; it was made behind w0, of which nothing has turned. -/
structure Buf (w0 w : World) (B : Nat) (l : List UInt8) : Prop where
  row : ∃ (C : Array Value) (e : TypeId) (lo hi : Nat), w.heap[B]? = some (.cells C e (lo, hi)) ∧ l.length ≤ lo ∧ ∀ (j : Nat) (b : UInt8), l[j]? = some b → C[j]? = some (Value.int .u8 (b.toNat : Int))
  ge : w0.heap.size ≤ B
  bl : Bl w0 w
theorem Buf.cell {w0 w : World} {B : Nat} {l : List UInt8} (h : Buf w0 w B l) (j : Nat) (b : UInt8) (hj : l[j]? = some b) : w.cell? ⟨B, j, none⟩ = some (.int .u8 (b.toNat : Int)) := by
  obtain ⟨C, e, lo, hi, hr, hl, hc⟩ := h.row
  rw [cell_of_row w B j _ _ _ hr]; exact hc j b hj
theorem Buf.free {w0 w : World} {B : Nat} {l : List UInt8} (h : Buf w0 w B l) (j : Nat) (hj : j < l.length) : w.frozen? ⟨B, j, none⟩ = false := by
  obtain ⟨C, e, lo, hi, hr, hl, hc⟩ := h.row
  simp only [World.frozen?, hr]
  rw [decide_eq_false (by omega), Bool.false_and]
theorem Buf.set {w0 w : World} {B : Nat} {l : List UInt8} (h : Buf w0 w B l) (j : Nat) (hj : j < l.length) (b : UInt8) (n : Int) (hn : n = (b.toNat : Int)) : Buf w0 (w.setCell ⟨B, j, none⟩ (.int .u8 n)) B (l.set j b) := by
  subst hn
  obtain ⟨C, e, lo, hi, hr, hl, hc⟩ := h.row
  have hjC : j < C.size := by
    have := hc j l[j] (List.getElem?_eq_getElem hj)
    exact (Array.getElem?_eq_some_iff.1 this).1
  refine ⟨⟨C.setIfInBounds j (.int .u8 (b.toNat : Int)), e, lo, hi, ?_, by rw [List.length_set]; exact hl, ?_⟩, h.ge, ⟨h.bl.out.setCell h.ge _⟩⟩
  · simp [World.setCell, Array.getElem?_modify, hr]
  · intro i x hx
    rw [List.getElem?_set] at hx
    rw [Array.getElem?_setIfInBounds]
    by_cases hij : j = i
    · subst hij
      rw [if_pos rfl, if_pos hj] at hx
      rw [if_pos rfl, if_pos hjC]
      cases hx; rfl
    · rw [if_neg hij] at hx
      rw [if_neg hij]
      exact hc i x hx
theorem Buf.drewN {w0 w : World} {B : Nat} {l : List UInt8} (h : Buf w0 w B l) (n : Nat) : Buf w0 (w.drewN n) B l := ⟨h.row, h.ge, h.bl.drewN n⟩
theorem Buf.new (w0 w : World) (e : TypeId) (s : ByteArray) (h : Bl w0 w) : Buf w0 (Lib.bytesWorld w e s) w.heap.size s.data.toList := by
  refine ⟨⟨_, _, _, _, Lib.bytesWorld_at_new w e s, ?_, ?_⟩, h.size, h.trans ⟨?_⟩⟩
  · rw [size_len]; unfold Lib.bytesCells; rw [Array.size_append, Array.size_map]; exact Nat.le_add_right _ _
  · intro j b hj
    have hlt := (List.getElem?_eq_some_iff.1 hj).1
    rw [size_len] at hlt
    have := Lib.bytesWorld_cell w e s j hlt
    rw [cell_of_row _ _ j _ _ _ (Lib.bytesWorld_at_new w e s)] at this
    rw [this]
    simp [List.getD, hj]
  · exact ⟨rfl, rfl, rfl, by rw [Lib.bytesWorld_size]; omega, fun i hi => Lib.bytesWorld_at_old w e s i hi⟩
theorem Buf.string {w0 w : World} {B : Nat} {l : List UInt8} (h : Buf w0 w B l) (a n c : Nat) (m : List UInt8) (hm : (l.drop a).take n = m) (hn : a + n ≤ l.length) :
    (convert 33 9 (.slice (some ⟨B, a, none⟩) n c)).run Tryd.prog w = .ok (.string (mkB m)) w := by
  subst hm
  have hlen : ((l.drop a).take n).length = n := by rw [List.length_take, List.length_drop]; omega
  have := run_convert_bytes_back (P := Tryd.prog) w 33 9 5 ⟨B, a, none⟩ c ((l.drop a).take n) Tryd.underlying33 Tryd.underlying5 Tryd.underlying9 (fun j hj => by
    rw [show (⟨B, a, none⟩ : Addr).add j = ⟨B, a + j, none⟩ by unfold Addr.add; split <;> simp_all]
    refine h.cell (a + j) _ ?_
    have hj2 := hj
    rw [hlen] at hj2
    have e : ((l.drop a).take n)[j]? = l[a + j]? := by
      rw [List.getElem?_take, if_pos hj2, List.getElem?_drop]
    rw [← e, List.getElem?_eq_getElem hj])
  rw [hlen] at this
  exact this

theorem lf_len (l : List UInt8) : (lf l).length = l.length := by unfold lf; rw [List.length_map]
theorem lf_at (l : List UInt8) (k : Nat) (b : UInt8) (h : l[k]? = some b) : (lf l)[k]? = some (if b == 10 then 32 else b) := by
  unfold lf; rw [List.getElem?_map, h]; rfl
/-- What the buffer holds in round k. -/
def half (l : List UInt8) (k : Nat) : List UInt8 := (lf l).take k ++ l.drop k
theorem half_len (l : List UInt8) (k : Nat) (h : k ≤ l.length) : (half l k).length = l.length := by
  unfold half; rw [List.length_append, List.length_take, List.length_drop, lf_len]; omega
theorem half_at (l : List UInt8) (k : Nat) (h : k < l.length) : (half l k)[k]? = l[k]? := by
  unfold half
  rw [List.getElem?_append_right (by rw [List.length_take, lf_len]; omega), List.length_take, lf_len, List.getElem?_drop]
  congr 1; omega
theorem half_succ (l : List UInt8) (k : Nat) (h : k < l.length) : half l (k + 1) = (half l k).set k (if l[k] == 10 then 32 else l[k]) := by
  have h1 : k < (lf l).length := by rw [lf_len]; exact h
  have e : (lf l)[k] = if l[k] == 10 then 32 else l[k] := by
    have := lf_at l k l[k] (List.getElem?_eq_getElem h)
    rw [List.getElem?_eq_getElem h1] at this
    exact Option.some.inj this
  unfold half
  rw [List.set_append_right _ _ (by rw [List.length_take, lf_len]; omega), List.length_take, lf_len, List.take_succ_eq_append_getElem h1, e, List.append_assoc]
  have e2 : k - min k l.length = 0 := by omega
  rw [e2, List.drop_eq_getElem_cons h, List.set_cons_zero]
  rfl
theorem half_same (l : List UInt8) (k : Nat) (h : k < l.length) (h1 : (l[k] == 10) = false) : half l (k + 1) = half l k := by
  rw [half_succ l k h, h1]
  have e : (half l k)[k]? = some l[k] := by rw [half_at l k h, List.getElem?_eq_getElem h]
  apply List.ext_getElem?
  intro i
  rw [List.getElem?_set]
  split
  · rename_i hk; subst hk
    split
    · exact e.symm
    · rename_i hq; rw [half_len l k (Nat.le_of_lt h)] at hq; exact absurd h hq
  · rfl
theorem half_all (l : List UInt8) : half l l.length = lf l := by
  unfold half; rw [List.drop_length, List.append_nil, List.take_of_length_le (by rw [lf_len]; exact Nat.le_refl _)]
def otherL (l : List UInt8) (k : Nat) : Bool := ((lf l).take k).any (· != 32)
theorem other_succ (l : List UInt8) (k : Nat) (h : k < l.length) : otherL l (k + 1) = (otherL l k || ((if l[k] == 10 then 32 else l[k]) != 32)) := by
  have h1 : k < (lf l).length := by rw [lf_len]; exact h
  have e : (lf l)[k] = if l[k] == 10 then 32 else l[k] := by
    have := lf_at l k l[k] (List.getElem?_eq_getElem h)
    rw [List.getElem?_eq_getElem h1] at this
    exact Option.some.inj this
  unfold otherL
  rw [List.take_succ_eq_append_getElem h1, List.any_append, e]
  simp
theorem other_all (l : List UInt8) : otherL l l.length = (lf l).any (· != 32) := by
  unfold otherL; rw [List.take_of_length_le (by rw [lf_len]; exact Nat.le_refl _)]

end Go.Proofs.YtgamlckdjfjobaaDoor
