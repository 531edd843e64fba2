/- The scanner's small methods: sign, white, quoted, named, and the bytes that names and values are made of. -/
import Derived.Test.YtgamlckdjfjobaaDoorCutLeft
namespace Go.Proofs.YtgamlckdjfjobaaDoor
open Go.RowKit

/-- Block g is a scanner that has the text t left; it was made behind w0, of which nothing has turned. -/
structure St (w0 w : World) (g : Nat) (t : ByteArray) : Prop where
  blk : w.heap[g]? = some (.cells #[.string t] 48 (0, 0))
  ge : w0.heap.size ≤ g
  bl : Bl w0 w
theorem St.cell {w0 w : World} {g : Nat} {t : ByteArray} (h : St w0 w g t) : w.cell? ⟨g, 0, none⟩ = some (.string t) := by
  rw [cell_of_row w g 0 _ _ _ h.blk]; rfl
theorem St.free {w0 w : World} {g : Nat} {t : ByteArray} (h : St w0 w g t) : w.frozen? ⟨g, 0, none⟩ = false := by simp [World.frozen?, h.blk]
theorem St.lt {w0 w : World} {g : Nat} {t : ByteArray} (h : St w0 w g t) : g < w.heap.size := (Array.getElem?_eq_some_iff.1 h.blk).1
theorem St.more {w0 w w' : World} {g : Nat} {t : ByteArray} (h : St w0 w g t) (k : Bl w w') : St w0 w' g t := ⟨by rw [k.block h.lt]; exact h.blk, h.ge, h.bl.trans k⟩
theorem St.set {w0 w : World} {g : Nat} {t : ByteArray} (h : St w0 w g t) (u : ByteArray) : St w0 (w.setCell ⟨g, 0, none⟩ (.string u)) g u := by
  refine ⟨?_, h.ge, ⟨h.bl.out.setCell h.ge _⟩⟩
  simp [World.setCell, Array.getElem?_modify, h.blk]
theorem St.drew {w0 w : World} {g : Nat} {t : ByteArray} (h : St w0 w g t) : St w0 w.drew g t := h.more (Bl.refl w).drew
theorem St.drewN {w0 w : World} {g : Nat} {t : ByteArray} (h : St w0 w g t) (n : Nat) : St w0 (w.drewN n) g t := h.more ((Bl.refl w).drewN n)

/-- All blocks but g are as they were. -/
structure Oth (g : Nat) (w w' : World) : Prop where
  mk :: (out : ∀ i, i < w.heap.size → i ≠ g → w'.heap[i]? = w.heap[i]?)
theorem Oth.refl (g : Nat) (w : World) : Oth g w w := ⟨fun _ _ _ => rfl⟩
theorem Oth.set (w : World) (g : Nat) (v : Value) : Oth g w (w.setCell ⟨g, 0, none⟩ v) := ⟨fun i _ hi => Below.heap_setCell w _ _ i hi⟩
theorem Oth.row {g : Nat} {w w' : World} (h : Oth g w w') {B : Nat} {o : Obj} (hb : w.heap[B]? = some o) (hg : B ≠ g) : w'.heap[B]? = some o := by
  rw [h.out B (Array.getElem?_eq_some_iff.1 hb).1 hg]; exact hb

def tailB (t : ByteArray) : ByteArray := mkB t.data.toList.tail
theorem tailB_eq (t : ByteArray) : t.extract 1 t.size = tailB t := by
  refine str_eq ?_
  rw [Lib.extract_to_end, tailB, mkB_data, List.drop_one]

set_option maxHeartbeats 400000 in
theorem sign_yes (w0 w : World) (g : Nat) (t : ByteArray) (b : UInt8) (h0 : b ≠ 0) (n : Int) (hn : n = (b.toNat : Int)) (hI : St w0 w g t) (h : (t.data.toList.headD 0 == b) = true) :
    Calls Tryd.prog 45 #[.pointer (some ⟨g, 0, none⟩), .int .u8 n] w fun e w' => e = .returned (.bool true) ∧ St w0 w' g (tailB t) ∧ Oth g w w' := by
  subst hn
  have hp : 0 < t.size := by
    rcases Nat.eq_zero_or_pos t.size with e | e
    · obtain rfl := str_nil e
      simp at h; exact absurd h.symm h0
    · exact e
  have e1 := isEmpty_false hp
  have hd := headD_at t hp
  have h2 : ((t[0].toNat : Int) != (b.toNat : Int)) = false := by
    rw [ne_of_byte _ rfl, ← hd, h]; rfl
  have hc := hI.cell
  have hf := hI.free
  have hs := Lib.hid (hI.set (tailB t))
  have ht := tailB_eq t
  clear h hd
  go_enter Tryd.func45, Tryd.ntmps45
  go_wp2
  go_ret
  exact ⟨rfl, hs.out, Oth.set w g _⟩

set_option maxHeartbeats 400000 in
theorem sign_no (w0 w : World) (g : Nat) (t : ByteArray) (b : UInt8) (n : Int) (hn : n = (b.toNat : Int)) (hI : St w0 w g t) (h : (t.data.toList.headD 0 == b) = false) :
    Calls Tryd.prog 45 #[.pointer (some ⟨g, 0, none⟩), .int .u8 n] w fun e w' => e = .returned (.bool false) ∧ St w0 w' g t ∧ Oth g w w' := by
  subst hn
  have hc := hI.cell
  have hf := hI.free
  rcases Nat.eq_zero_or_pos t.size with e | hp
  · obtain rfl := str_nil e
    clear h
    go_enter Tryd.func45, Tryd.ntmps45
    go_wp2
    go_ret
    exact ⟨rfl, hI, Oth.refl _ _⟩
  · have e1 := isEmpty_false hp
    have hd := headD_at t hp
    have h2 : ((t[0].toNat : Int) != (b.toNat : Int)) = true := by
      rw [ne_of_byte _ rfl, ← hd, h]; rfl
    clear h hd
    go_enter Tryd.func45, Tryd.ntmps45
    go_wp2
    go_ret
    exact ⟨rfl, hI, Oth.refl _ _⟩

/-! ### white -/
def whiteS : List UInt8 := [32, 9, 10]
def whiteT (t : ByteArray) : ByteArray := mkB (cutL whiteS t.data.toList)
theorem cutL_le (p l : List UInt8) : (cutL p l).length ≤ l.length := (List.dropWhile_sublist _).length_le

set_option maxHeartbeats 400000 in
theorem white_any (w0 w : World) (g : Nat) (t : ByteArray) (hs : t.size ≤ 1000000) (hI : St w0 w g t) :
    Calls Tryd.prog 49 #[.pointer (some ⟨g, 0, none⟩)] w fun e w' => e = .returned (.bool (decide ((whiteT t).size < t.size))) ∧ St w0 w' g (whiteT t) := by
  have hc := hI.cell
  have hf := hI.free
  have HC := cutLeft_any t ⟨#[32, 9, 10]⟩ w hs (by decide) (by decide)
  rw [show (mkB (cutL (⟨#[32, 9, 10]⟩ : ByteArray).data.toList t.data.toList)) = whiteT t from rfl] at HC
  have hz : (whiteT t).size ≤ 1000000 := by
    have := cutL_le whiteS t.data.toList
    rw [size_len] at this
    unfold whiteT; rw [mkB_size]; omega
  obtain ⟨u, hu⟩ : ∃ u, whiteT t = u := ⟨_, rfl⟩
  rw [hu] at HC hz
  rw [hu]
  clear hu
  go_enter Tryd.func49, Tryd.ntmps49
  go_wp2_with fail
  refine HC.mono ?_
  rintro e w1 ⟨rfl, hb⟩
  have h1 := hI.more hb
  have hc1 := h1.cell
  have hf1 := h1.free
  have hs2 := h1.set u
  have hc2 := hs2.cell
  have S := Lib.hid hs2
  have K := Lib.hid hI
  clear hI h1 hs2
  go_wp2
  go_ret
  exact ⟨ret_bool (by simp), S.out⟩

/-! ### quoted -/
def afterB (c : UInt8) (t : ByteArray) : ByteArray := mkB (t.data.toList.dropWhile (· != c)).tail

set_option maxHeartbeats 400000 in
theorem quoted_any (w0 w : World) (g : Nat) (t : ByteArray) (c : UInt8) (n : Int) (hn : n = (c.toNat : Int)) (hs : t.size ≤ 1000000) (hI : St w0 w g t) :
    Calls Tryd.prog 87 #[.pointer (some ⟨g, 0, none⟩), .int .u8 n] w fun e w' => e = .returned (.bool (t.data.toList.contains c)) ∧
      St w0 w' g (if t.data.toList.contains c then afterB c t else t) := by
  have hc := hI.cell
  have hf := hI.free
  cases hh : t.data.toList.contains c with
  | false =>
    have HX := fun W => idx_no t c n hn hh W
    clear hh hn
    go_enter Tryd.func87, Tryd.ntmps87
    go_wp2_with (first | (go_at_call 19; (with_reducible refine (HX _).mono ?_); rintro e w' ⟨rfl, rfl⟩))
    go_ret
    exact ⟨rfl, hI⟩
  | true =>
    obtain ⟨j, hj⟩ : ∃ j, (t.data.toList.takeWhile (· != c)).length = j := ⟨_, rfl⟩
    have hjl : j < t.size := by rw [← hj, ← size_len]; exact takeWhile_lt hh
    have HX := fun W => idx_yes t c n hn j hh hj W
    have E : t.extract (j + 1) t.size = afterB c t := by
      refine str_eq ?_
      rw [Lib.extract_to_end, afterB, mkB_data, ← hj, takeWhile_drop1]
    have S := Lib.hid (hI.set (afterB c t))
    clear hh hn hj
    go_enter Tryd.func87, Tryd.ntmps87
    go_wp2_with (first | (go_at_call 19; (with_reducible refine (HX _).mono ?_); rintro e w' ⟨rfl, rfl⟩))
    go_ret
    exact ⟨rfl, S.out⟩

end Go.Proofs.YtgamlckdjfjobaaDoor
