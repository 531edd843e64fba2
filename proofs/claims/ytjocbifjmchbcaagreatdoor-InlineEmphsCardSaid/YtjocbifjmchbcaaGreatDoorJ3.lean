/- Words, laws and walks that the card stands on, joined out of several texts: part 3. -/
import Derived.Test.YtjocbifjmchbcaaGreatDoorJ2
import Derived.Lib.OthersKept
import Derived.Lib.SlBytesConst
import Derived.Shelf.Strings.BuilderK
import Derived.Shelf.Strings.BuilderRune
import Derived.Shelf.Spec.DecodeRune
import Derived.Shelf.Strings.SlTrimAscii
import Derived.Lib.TrimU
import Derived.Lib.QuoteLoop
import Derived.Test.YtjocbifjmchbcaaGreatDoorJ1
import Derived.Lib.ConvBytes
/- The contract of cutLeft: a text without the characters of an ASCII set at its beginning. -/
namespace Go.Proofs.YtjocbifjmchbcaaGreatDoor
open Go.RowKit

def inB (p : ByteArray) (j : Nat) (r : Nat) : Bool := (p.data.toList.take j).any fun b => ((r : Int) == (b.toNat : Int))
theorem inB_zero (p : ByteArray) (r : Nat) : inB p 0 r = false := by simp [inB]
theorem inB_succ (p : ByteArray) (j r : Nat) (h : j < p.size) : inB p (j + 1) r = (inB p j r || ((r : Int) == (p[j].toNat : Int))) := by
  unfold inB
  rw [List.take_succ_eq_append_getElem (by simpa using h), List.any_append]; simp; rfl
theorem inB_full (p : ByteArray) (r : Nat) (j : Nat) (h : p.size ≤ j) : inB p j r = p.data.toList.any fun b => ((r : Int) == (b.toNat : Int)) := by
  unfold inB; rw [List.take_of_length_le (by simpa using h)]
theorem width_pos (s : ByteArray) (pos : Nat) (h : pos < s.size) : 1 ≤ (Utf8.decode s pos).2 := by
  by_cases ha : (s[pos]'h).toNat < 128
  · rw [decode_ascii s pos h ha]; exact Nat.le_refl _
  · exact (decode_high s pos h (by omega)).2
theorem in_set (s p : ByteArray) (ha : ∀ b ∈ p.data.toList, b.toNat < 128) (k : Nat) (h : k < s.size) :
    (p.data.toList.any fun b => (((Utf8.decode s k).1 : Int) == (b.toNat : Int))) = p.data.toList.contains s[k] := by
  by_cases h8 : (s[k]'h).toNat < 128
  · rw [decode_ascii s k h h8, List.contains_eq_any_beq]
    congr 1
    funext b
    exact beq_of_byte _ _
  · have hd := (decode_high s k h (by omega)).1
    have e1 : (p.data.toList.any fun b => (((Utf8.decode s k).1 : Int) == (b.toNat : Int))) = false := by
      rw [List.any_eq_false]; intro b hb
      have := ha b hb
      simp; omega
    have e2 : p.data.toList.contains s[k] = false := by
      rw [List.contains_eq_any_beq, List.any_eq_false]; intro b hb
      have := ha b hb
      intro e
      have : s[k] = b := by simpa using e
      rw [this] at h8; omega
    rw [e1, e2]
theorem in_one (s p : ByteArray) (ha : ∀ b ∈ p.data.toList, b.toNat < 128) (k : Nat) (h : k < s.size) (hi : p.data.toList.contains s[k] = true) : (Utf8.decode s k).2 = 1 := by
  have : (s[k]'h).toNat < 128 := by
    refine ha _ ?_
    simpa using hi
  rw [decode_ascii s k h this]

def cutL (p l : List UInt8) : List UInt8 := l.dropWhile (p.contains ·)
theorem dropWhile_stop {α : Type} (p : α → Bool) : ∀ (l : List α) (k : Nat), k ≤ l.length → (l.take k).all p = true → (∀ a, l[k]? = some a → p a = false) → l.dropWhile p = l.drop k := by
  intro l k hk h1 h2
  rw [← takeWhile_drop, takeWhile_stop p l k hk h1 h2]

set_option maxHeartbeats 1000000 in
theorem cutLeft_any (s p : ByteArray) (w : World) (_hs : s.size ≤ 1000000) (_hp : p.size ≤ 1000) (ha : ∀ b ∈ p.data.toList, b.toNat < 128) :
    Calls Tryz.prog 237 #[.string s, .string p] w fun e w' => e = .returned (.string (mkB (cutL p.data.toList s.data.toList))) ∧ Bl w w' := by
  have HA := Lib.hid ha
  clear ha
  go_enter Tryz.func237, Tryz.ntmps237
  go_wp2
  go_loopw [] (fun wr => ∃ k : Nat, k ≤ s.size ∧ wr.heap[w.heap.size]? = some (.stringIter s k) ∧ Bl w wr ∧ Hid ((s.data.toList.take k).all (p.data.toList.contains ·) = true)) (fun wr => s.size - wr.iterPos w.heap.size)
  case atStart =>
    exact ⟨0, Nat.zero_le _, by simpa using World.iter_heap w s 0, ⟨(Below.refl _ w).alloc (Nat.le_refl _) _⟩, Lib.hid (by simp)⟩
  case round =>
    obtain ⟨k, hk, hit, hb, hall⟩ := hrel
    have hsz : w.heap.size < wr.heap.size := (Array.getElem?_eq_some_iff.1 hit).1
    by_cases hlt : k < s.size
    · have hnx : ∀ ty, (Instr.next (.pointer (some ⟨w.heap.size, 0, none⟩)) true ty).run Tryz.prog wr = _ := fun ty => Lib.run_next_any_at wr w.heap.size s k ty hit hlt
      obtain ⟨n, hn⟩ : ∃ n, (Utf8.decode s k).2 = n := ⟨_, rfl⟩
      obtain ⟨r, hr⟩ : ∃ r, (Utf8.decode s k).1 = r := ⟨_, rfl⟩
      rw [hn, hr] at hnx
      have hin := in_set s p HA.out k hlt
      have h1 := in_one s p HA.out k hlt
      rw [hr] at hin
      rw [hn] at h1
      have hb2 : Bl w (wr.iterAt w.heap.size s (k + n)) := ⟨Lib.below_iterAt hb.out (Nat.le_refl _) s (k + n)⟩
      have hit2 := Lib.iterAt_heap wr w.heap.size s k (k + n) hit
      have hz2 : (wr.iterAt w.heap.size s (k + n)).heap.size = wr.heap.size := Lib.iterAt_size ..
      have HN := Lib.hid hin
      have H1 := Lib.hid h1
      have HK := Lib.hid (take_succ_all s (p.data.toList.contains ·) k hlt)
      clear hn hr hin h1
      obtain ⟨w2, hw2⟩ : ∃ w2, wr.iterAt w.heap.size s (k + n) = w2 := ⟨_, rfl⟩
      rw [hw2] at hnx hb2 hit2 hz2
      have Z2 := Lib.hid hz2
      have hlt2 : w.heap.size < w2.heap.size := by omega
      clear hz2 hw2
      obtain ⟨wo, rfl⟩ : ∃ wo : World, wo = wr := ⟨_, rfl⟩
      go_wp2
      go_loopw [7] (fun v wi => ∃ j : Nat, j ≤ p.size ∧ wi.heap[w2.heap.size]? = some (.stringIter p j) ∧ wi.heap[w.heap.size]? = some (.stringIter s (k + n)) ∧ Bl w wi ∧ v = .bool (inB p j r)) (fun _ wi => p.size - wi.iterPos w2.heap.size)
      case atStart =>
        refine ⟨0, Nat.zero_le _, by simpa using World.iter_heap w2 p 0, ?_, hb2.trans ⟨(Below.refl _ w2).alloc (Nat.le_refl _) _⟩, by rw [inB_zero]⟩
        have hx : Bl w2 (w2.iter p 0) := ⟨(Below.refl _ w2).alloc (Nat.le_refl _) _⟩
        rw [hx.block hlt2]; exact hit2
      case round =>
        obtain ⟨j, hj, hjt, hit3, hb3, rfl⟩ := hrel
        by_cases hjl : j < p.size
        · have hja : (p[j]'hjl).toNat < 128 := HA.out _ (by rw [← Array.mem_def]; exact Array.getElem_mem (by simpa using hjl))
          have hnx2 : ∀ ty, (Instr.next (.pointer (some ⟨w2.heap.size, 0, none⟩)) true ty).run Tryz.prog wr = _ := fun ty => Lib.run_next_ascii_at wr w2.heap.size p j ty hjt hjl hja
          have hb4 : Bl w (wr.iterAt w2.heap.size p (j + 1)) := ⟨Lib.below_iterAt hb3.out (by omega) p (j + 1)⟩
          have hit4 := Lib.iterAt_heap wr w2.heap.size p j (j + 1) hjt
          have hit5 : (wr.iterAt w2.heap.size p (j + 1)).heap[w.heap.size]? = some (.stringIter s (k + n)) := by
            rw [Lib.iterAt_other _ _ _ _ _ (by omega)]; exact hit3
          have HS := Lib.hid (inB_succ p j r hjl)
          obtain ⟨b, hbv⟩ : ∃ b, inB p j r = b := ⟨_, rfl⟩
          obtain ⟨c, hcv⟩ : ∃ c : Bool, ((r : Int) == (p[j].toNat : Int)) = c := ⟨_, rfl⟩
          rw [hbv, hcv] at HS
          rw [hbv]
          have B1 := Lib.hid hbv
          clear hbv hja
          obtain ⟨w4, hw4⟩ : ∃ w4, wr.iterAt w2.heap.size p (j + 1) = w4 := ⟨_, rfl⟩
          rw [hw4] at hnx2 hb4 hit4 hit5
          have W4 := Lib.hid hw4
          clear hw4
          cases b with
          | true =>
            go_wp2
            go_roundw
            case rel => exact ⟨j + 1, by omega, hit4, hit5, hb4, by rw [HS.out]; rfl⟩
            case measure => simp only [World.iterPos, hit4, hjt]; omega
          | false =>
            cases c with
            | true =>
              go_wp2
              go_roundw
              case rel => exact ⟨j + 1, by omega, hit4, hit5, hb4, by rw [HS.out]; rfl⟩
              case measure => simp only [World.iterPos, hit4, hjt]; omega
            | false =>
              go_wp2
              go_roundw
              case rel => exact ⟨j + 1, by omega, hit4, hit5, hb4, by rw [HS.out]; rfl⟩
              case measure => simp only [World.iterPos, hit4, hjt]; omega
        · have hnx2 : ∀ ty, (Instr.next (.pointer (some ⟨w2.heap.size, 0, none⟩)) true ty).run Tryz.prog wr = _ := fun ty => Lib.run_next_end_at wr w2.heap.size p j ty hjt hjl
          have hf := (inB_full p r j (by omega)).trans HN.out
          cases hc : p.data.toList.contains s[k] with
          | true =>
            rw [hc] at hf
            rw [hf]
            have F := Lib.hid hf
            have e1 := H1.out hc
            subst e1
            have C := Lib.hid hc
            clear hf hc
            go_wp2
            go_roundw
            case rel => exact ⟨k + 1, by omega, hit3, hb3, Lib.hid (by rw [HK.out, hall.out, C.out]; rfl)⟩
            case measure => simp only [World.iterPos, hit3, hit]; omega
          | false =>
            rw [hc] at hf
            rw [hf]
            have C := Lib.hid hc
            clear hf hc
            go_wp2
            go_ret
            refine ⟨ret_str ?_, hb3⟩
            refine str_eq ?_
            rw [Lib.extract_to_end, mkB_data, cutL, dropWhile_stop _ _ k (by rw [size_len]; exact hk) hall.out]
            intro a ha2
            have : a = s[k] := Option.some.inj (ha2.symm.trans (at_some s k hlt))
            rw [this]; exact C.out
    · have hnx : ∀ ty, (Instr.next (.pointer (some ⟨w.heap.size, 0, none⟩)) true ty).run Tryz.prog wr = _ := fun ty => Lib.run_next_end_at wr w.heap.size s k ty hit hlt
      go_wp2
      go_ret
      refine ⟨ret_str ?_, hb⟩
      have h := hall.out
      rw [List.take_of_length_le (by rw [size_len]; omega)] at h
      unfold cutL
      rw [(dropWhile_nil _ _).mpr (List.all_eq_true.mp h)]; rfl

end Go.Proofs.YtjocbifjmchbcaaGreatDoor
/- The scanner's small methods: sign, white, quoted, named, and the bytes that names and values are made of. -/
namespace Go.Proofs.YtjocbifjmchbcaaGreatDoor
open Go.RowKit

/-- Block g is a scanner that has the text t left; it was made behind w0, of which nothing has turned. -/
structure St (w0 w : World) (g : Nat) (t : ByteArray) : Prop where
  blk : w.heap[g]? = some (.cells #[.string t] 207 (0, 0))
  ge : w0.heap.size ≤ g
  bl : Bl w0 w
theorem St.cell {w0 w : World} {g : Nat} {t : ByteArray} (h : St w0 w g t) : w.cell? ⟨g, 0, none⟩ = some (.string t) := by
  rw [cell_of_row w g 0 _ _ _ h.blk]; rfl
theorem St.free {w0 w : World} {g : Nat} {t : ByteArray} (h : St w0 w g t) : w.frozen? ⟨g, 0, none⟩ = false := by simp [World.frozen?, h.blk]
theorem St.lt {w0 w : World} {g : Nat} {t : ByteArray} (h : St w0 w g t) : g < w.heap.size := (Array.getElem?_eq_some_iff.1 h.blk).1
theorem St.more {w0 w w' : World} {g : Nat} {t : ByteArray} (h : St w0 w g t) (k : Bl w w') : St w0 w' g t := ⟨by rw [k.block h.lt]; exact h.blk, h.ge, h.bl.trans k⟩
theorem St.set {w0 w : World} {g : Nat} {t : ByteArray} (h : St w0 w g t) (u : ByteArray) : St w0 (w.setCell ⟨g, 0, none⟩ (.string u)) g u := by
  refine ⟨?_, h.ge, ⟨h.bl.out.setCell h.ge _⟩⟩
  simp [World.setCell, Array.getElem?_modify, h.blk]
theorem St.drew {w0 w : World} {g : Nat} {t : ByteArray} (h : St w0 w g t) : St w0 w.drew g t := h.more (Bl.refl w).drew
theorem St.drewN {w0 w : World} {g : Nat} {t : ByteArray} (h : St w0 w g t) (n : Nat) : St w0 (w.drewN n) g t := h.more ((Bl.refl w).drewN n)

/-- All blocks but g are as they were. -/
structure Oth (g : Nat) (w w' : World) : Prop where
  mk :: (out : ∀ i, i < w.heap.size → i ≠ g → w'.heap[i]? = w.heap[i]?)
theorem Oth.refl (g : Nat) (w : World) : Oth g w w := ⟨fun _ _ _ => rfl⟩
theorem Oth.set (w : World) (g : Nat) (v : Value) : Oth g w (w.setCell ⟨g, 0, none⟩ v) := ⟨fun i _ hi => Below.heap_setCell w _ _ i hi⟩
theorem Oth.row {g : Nat} {w w' : World} (h : Oth g w w') {B : Nat} {o : Obj} (hb : w.heap[B]? = some o) (hg : B ≠ g) : w'.heap[B]? = some o := by
  rw [h.out B (Array.getElem?_eq_some_iff.1 hb).1 hg]; exact hb

def tailB (t : ByteArray) : ByteArray := mkB t.data.toList.tail
theorem tailB_eq (t : ByteArray) : t.extract 1 t.size = tailB t := by
  refine str_eq ?_
  rw [Lib.extract_to_end, tailB, mkB_data, List.drop_one]

set_option maxHeartbeats 400000 in
theorem sign_yes (w0 w : World) (g : Nat) (t : ByteArray) (b : UInt8) (h0 : b ≠ 0) (n : Int) (hn : n = (b.toNat : Int)) (hI : St w0 w g t) (h : (t.data.toList.headD 0 == b) = true) :
    Calls Tryz.prog 171 #[.pointer (some ⟨g, 0, none⟩), .int .u8 n] w fun e w' => e = .returned (.bool true) ∧ St w0 w' g (tailB t) ∧ Oth g w w' := by
  subst hn
  have hp : 0 < t.size := by
    rcases Nat.eq_zero_or_pos t.size with e | e
    · obtain rfl := str_nil e
      simp at h; exact absurd h.symm h0
    · exact e
  have e1 := isEmpty_false hp
  have hd := headD_at t hp
  have h2 : ((t[0].toNat : Int) != (b.toNat : Int)) = false := by
    rw [ne_of_byte _ rfl, ← hd, h]; rfl
  have hc := hI.cell
  have hf := hI.free
  have hs := Lib.hid (hI.set (tailB t))
  have ht := tailB_eq t
  clear h hd
  go_enter Tryz.func171, Tryz.ntmps171
  go_wp2
  go_ret
  exact ⟨rfl, hs.out, Oth.set w g _⟩

set_option maxHeartbeats 400000 in
theorem sign_no (w0 w : World) (g : Nat) (t : ByteArray) (b : UInt8) (n : Int) (hn : n = (b.toNat : Int)) (hI : St w0 w g t) (h : (t.data.toList.headD 0 == b) = false) :
    Calls Tryz.prog 171 #[.pointer (some ⟨g, 0, none⟩), .int .u8 n] w fun e w' => e = .returned (.bool false) ∧ St w0 w' g t ∧ Oth g w w' := by
  subst hn
  have hc := hI.cell
  have hf := hI.free
  rcases Nat.eq_zero_or_pos t.size with e | hp
  · obtain rfl := str_nil e
    clear h
    go_enter Tryz.func171, Tryz.ntmps171
    go_wp2
    go_ret
    exact ⟨rfl, hI, Oth.refl _ _⟩
  · have e1 := isEmpty_false hp
    have hd := headD_at t hp
    have h2 : ((t[0].toNat : Int) != (b.toNat : Int)) = true := by
      rw [ne_of_byte _ rfl, ← hd, h]; rfl
    clear h hd
    go_enter Tryz.func171, Tryz.ntmps171
    go_wp2
    go_ret
    exact ⟨rfl, hI, Oth.refl _ _⟩

/-! ### white -/
def whiteS : List UInt8 := [32, 9, 10]
def whiteT (t : ByteArray) : ByteArray := mkB (cutL whiteS t.data.toList)
theorem cutL_le (p l : List UInt8) : (cutL p l).length ≤ l.length := (List.dropWhile_sublist _).length_le

set_option maxHeartbeats 400000 in
theorem white_any (w0 w : World) (g : Nat) (t : ByteArray) (hs : t.size ≤ 1000000) (hI : St w0 w g t) :
    Calls Tryz.prog 175 #[.pointer (some ⟨g, 0, none⟩)] w fun e w' => e = .returned (.bool (decide ((whiteT t).size < t.size))) ∧ St w0 w' g (whiteT t) := by
  have hc := hI.cell
  have hf := hI.free
  have HC := cutLeft_any t ⟨#[32, 9, 10]⟩ w hs (by decide) (by decide)
  rw [show (mkB (cutL (⟨#[32, 9, 10]⟩ : ByteArray).data.toList t.data.toList)) = whiteT t from rfl] at HC
  have hz : (whiteT t).size ≤ 1000000 := by
    have := cutL_le whiteS t.data.toList
    rw [size_len] at this
    unfold whiteT; rw [mkB_size]; omega
  obtain ⟨u, hu⟩ : ∃ u, whiteT t = u := ⟨_, rfl⟩
  rw [hu] at HC hz
  rw [hu]
  clear hu
  go_enter Tryz.func175, Tryz.ntmps175
  go_wp2_with fail
  refine HC.mono ?_
  rintro e w1 ⟨rfl, hb⟩
  have h1 := hI.more hb
  have hc1 := h1.cell
  have hf1 := h1.free
  have hs2 := h1.set u
  have hc2 := hs2.cell
  have S := Lib.hid hs2
  have K := Lib.hid hI
  clear hI h1 hs2
  go_wp2
  go_ret
  exact ⟨ret_bool (by simp), S.out⟩

/-! ### quoted -/
def afterB (c : UInt8) (t : ByteArray) : ByteArray := mkB (t.data.toList.dropWhile (· != c)).tail

set_option maxHeartbeats 400000 in
theorem quoted_any (w0 w : World) (g : Nat) (t : ByteArray) (c : UInt8) (n : Int) (hn : n = (c.toNat : Int)) (hs : t.size ≤ 1000000) (hI : St w0 w g t) :
    Calls Tryz.prog 266 #[.pointer (some ⟨g, 0, none⟩), .int .u8 n] w fun e w' => e = .returned (.bool (t.data.toList.contains c)) ∧
      St w0 w' g (if t.data.toList.contains c then afterB c t else t) := by
  have hc := hI.cell
  have hf := hI.free
  cases hh : t.data.toList.contains c with
  | false =>
    have HX := fun W => idx_no t c n hn hh W
    clear hh hn
    go_enter Tryz.func266, Tryz.ntmps266
    go_wp2_with (first | (go_at_call 107; (with_reducible refine (HX _).mono ?_); rintro e w' ⟨rfl, rfl⟩))
    go_ret
    exact ⟨rfl, hI⟩
  | true =>
    obtain ⟨j, hj⟩ : ∃ j, (t.data.toList.takeWhile (· != c)).length = j := ⟨_, rfl⟩
    have hjl : j < t.size := by rw [← hj, ← size_len]; exact takeWhile_lt hh
    have HX := fun W => idx_yes t c n hn j hh hj W
    have E : t.extract (j + 1) t.size = afterB c t := by
      refine str_eq ?_
      rw [Lib.extract_to_end, afterB, mkB_data, ← hj, takeWhile_drop1]
    have S := Lib.hid (hI.set (afterB c t))
    clear hh hn hj
    go_enter Tryz.func266, Tryz.ntmps266
    go_wp2_with (first | (go_at_call 107; (with_reducible refine (HX _).mono ?_); rintro e w' ⟨rfl, rfl⟩))
    go_ret
    exact ⟨rfl, S.out⟩

end Go.Proofs.YtjocbifjmchbcaaGreatDoor
/- scan.named, the bytes of names and values, and the scanner's while. -/
namespace Go.Proofs.YtjocbifjmchbcaaGreatDoor
open Go.RowKit

def nameB (b : UInt8) : Bool := letterI (b.toNat : Int) || digitI (b.toNat : Int) || b == 45
def namedL (l : List UInt8) : List UInt8 × List UInt8 :=
  if letterI ((l.headD 0).toNat : Int) then (l.headD 0 :: l.tail.takeWhile nameB, l.tail.dropWhile nameB) else ([], l)
def nameT (t : ByteArray) : ByteArray := mkB (namedL t.data.toList).1
def restT (t : ByteArray) : ByteArray := mkB (namedL t.data.toList).2

theorem name_byte (b : UInt8) : ((b.toNat : Int) == 45) = (b == 45) := eq_of_byte 45 rfl
theorem takeWhile_tail_stop {p : UInt8 → Bool} {l : List UInt8} {k : Nat} (h1 : 1 ≤ k) (hk : k ≤ l.length) (ha : ((l.take k).tail).all p = true) (hs : ∀ a, l[k]? = some a → p a = false) : (l.tail.takeWhile p).length = k - 1 := by
  refine takeWhile_stop p l.tail (k - 1) (by rw [List.length_tail]; omega) ?_ ?_
  · rw [← List.drop_one, List.drop_take] at ha; rw [← List.drop_one]; exact ha
  · intro a h
    refine hs a ?_
    rw [← List.drop_one, List.getElem?_drop] at h
    rw [← h]; congr 1; omega

theorem named_eq (t : ByteArray) (k : Nat) (h1 : 1 ≤ k) (hk : k ≤ t.size) (hl : letterI ((t.data.toList.headD 0).toNat : Int) = true)
    (ha : ((t.data.toList.take k).tail).all nameB = true) (hs : ∀ a, t.data.toList[k]? = some a → nameB a = false) :
    t.extract 0 k = nameT t ∧ t.extract k t.size = restT t := by
  have e := takeWhile_tail_stop h1 (by rw [size_len]; exact hk) ha hs
  have hn : t.data.toList ≠ [] := by
    intro e0; have := size_len t; rw [e0] at this; simp at this; omega
  obtain ⟨a, r, er⟩ := List.exists_cons_of_ne_nil hn
  have hk2 : k = (k - 1) + 1 := by omega
  refine ⟨str_eq ?_, str_eq ?_⟩
  · rw [Lib.extract_data, nameT, mkB_data, namedL, if_pos hl, List.drop_zero, Nat.sub_zero]
    rw [er] at e ⊢
    simp only [List.headD_cons, List.tail_cons] at e ⊢
    rw [hk2, List.take_succ_cons, ← e, takeWhile_take]
  · rw [Lib.extract_to_end, restT, mkB_data, namedL, if_pos hl]
    rw [er] at e ⊢
    simp only [List.tail_cons] at e ⊢
    rw [hk2, List.drop_succ_cons, ← e, takeWhile_drop]

theorem tail_all_succ (s : ByteArray) (p : UInt8 → Bool) (k : Nat) (h1 : 1 ≤ k) (h : k < s.size) : ((s.data.toList.take (k + 1)).tail).all p = (((s.data.toList.take k).tail).all p && p s[k]) := by
  rw [List.take_succ_eq_append_getElem (by simpa using h), List.tail_append_of_ne_nil, List.all_append]
  · simp; rfl
  · intro e
    have h2 : (s.data.toList.take k).length = 0 := by rw [e]; rfl
    rw [List.length_take, size_len] at h2
    omega

set_option maxHeartbeats 1000000 in
theorem named_any (t : ByteArray) (w : World) (hs : t.size ≤ 1000000) :
    Calls Tryz.prog 172 #[.string t] w fun e w' => e = .returned (.tuple #[.string (nameT t), .string (restT t)]) ∧ Bl w w' := by
  rcases Nat.eq_zero_or_pos t.size with e | hp
  · obtain rfl := str_nil e
    go_enter Tryz.func172, Tryz.ntmps172
    go_wp2
    go_ret2
    exact ⟨rfl, Bl.refl _⟩
  · have e1 := isEmpty_false hp
    have hd := headD_at t hp
    have b0 : (0 : Int) ≤ (t[0].toNat : Int) := by omega
    have b1 : (t[0].toNat : Int) < 256 := by have := t[0].toNat_lt; omega
    cases hl : letterI (t[0].toNat : Int) with
    | false =>
      have R : nameT t = ⟨#[]⟩ ∧ restT t = t := by
        unfold nameT restT namedL
        rw [hd, hl]
        exact ⟨rfl, mkB_self t⟩
      have R2 := Lib.hid R
      clear hd R
      go_enter Tryz.func172, Tryz.ntmps172
      go_wp2_with (first | (go_at_call 112; (with_reducible refine (letter_any _ b0 b1 _).mono ?_); rintro e w' ⟨rfl, rfl⟩))
      go_ret2
      exact ⟨by rw [R2.out.1, R2.out.2]; rfl, Bl.refl _⟩
    | true =>
      have HL := Lib.hid (show letterI ((t.data.toList.headD 0).toNat : Int) = true by rw [hd]; exact hl)
      clear hd
      go_enter Tryz.func172, Tryz.ntmps172
      go_wp2_with (first | (go_at_call 112; (with_reducible refine (letter_any _ b0 b1 _).mono ?_); rintro e w' ⟨rfl, rfl⟩))
      clear hl b0 b1
      go_loopw [4] (fun i wr => ∃ k : Nat, 1 ≤ k ∧ k ≤ t.size ∧ i = .int .i64 k ∧ Bl w wr ∧ Hid (((t.data.toList.take k).tail).all nameB = true)) (fun i _ => t.size - (intOf i).toNat)
      case atStart => exact ⟨1, Nat.le_refl _, hp, rfl, Bl.refl _, Lib.hid (by cases t.data.toList <;> simp)⟩
      case round =>
        obtain ⟨k, h1k, hk, rfl, hb, hall⟩ := hrel
        by_cases hlt : k < t.size
        · have b0 : (0 : Int) ≤ (t[k].toNat : Int) := by omega
          have b1 : (t[k].toNat : Int) < 256 := by have := t[k].toNat_lt; omega
          have HK := Lib.hid (tail_all_succ t nameB k h1k hlt)
          have hq : nameB t[k] = (letterI (t[k].toNat : Int) || digitI (t[k].toNat : Int) || ((t[k].toNat : Int) == 45)) := by rw [name_byte]; rfl
          have HQ := Lib.hid hq
          have AT := Lib.hid (at_some t k hlt)
          clear hq
          cases hl : letterI (t[k].toNat : Int) with
          | true =>
            rw [hl] at HQ
            go_wp2_with (first | (go_at_call 112; (with_reducible refine (letter_any _ b0 b1 _).mono ?_); rintro e w' ⟨rfl, rfl⟩))
            go_roundw
            case rel => exact ⟨k + 1, by omega, by omega, by go_num, hb, Lib.hid (by rw [HK.out, hall.out, HQ.out]; rfl)⟩
            case measure => simp [intOf]; omega
          | false =>
            cases hdg : digitI (t[k].toNat : Int) with
            | true =>
              rw [hdg] at HQ
              go_wp2_with (first | (go_at_call 112; (with_reducible refine (letter_any _ b0 b1 _).mono ?_); rintro e w' ⟨rfl, rfl⟩) | (go_at_call 161; (with_reducible refine (digit_any _ _).mono ?_); rintro e w' ⟨rfl, rfl⟩))
              go_roundw
              case rel => exact ⟨k + 1, by omega, by omega, by go_num, hb, Lib.hid (by rw [HK.out, hall.out, HQ.out]; simp)⟩
              case measure => simp [intOf]; omega
            | false =>
              rw [hl, hdg] at HQ
              cases h45 : ((t[k].toNat : Int) == 45) with
              | true =>
                rw [h45] at HQ
                go_wp2_with (first | (go_at_call 112; (with_reducible refine (letter_any _ b0 b1 _).mono ?_); rintro e w' ⟨rfl, rfl⟩) | (go_at_call 161; (with_reducible refine (digit_any _ _).mono ?_); rintro e w' ⟨rfl, rfl⟩))
                go_roundw
                case rel => exact ⟨k + 1, by omega, by omega, by go_num, hb, Lib.hid (by rw [HK.out, hall.out, HQ.out]; rfl)⟩
                case measure => simp [intOf]; omega
              | false =>
                rw [h45] at HQ
                have E := Lib.hid (named_eq t k h1k hk HL.out hall.out (fun a ha => by rw [Option.some.inj (ha.symm.trans AT.out)]; exact HQ.out))
                go_wp2_with (first | (go_at_call 112; (with_reducible refine (letter_any _ b0 b1 _).mono ?_); rintro e w' ⟨rfl, rfl⟩) | (go_at_call 161; (with_reducible refine (digit_any _ _).mono ?_); rintro e w' ⟨rfl, rfl⟩))
                repeat (go_quiet (fail); try go_wp2)
                go_ret2
                exact ⟨by rw [← E.out.1, ← E.out.2]; rfl, by repeat (first | exact hb | apply Bl.drewN | apply Bl.drew)⟩
        · have E := Lib.hid (named_eq t k h1k hk HL.out hall.out (fun a ha => by rw [at_none t k hlt] at ha; cases ha))
          go_wp2
          repeat (go_quiet (fail); try go_wp2)
          go_ret2
          exact ⟨by rw [← E.out.1, ← E.out.2]; rfl, by repeat (first | exact hb | apply Bl.drewN | apply Bl.drew)⟩

/-! ### closures of the scanner -/
def firstB (b : UInt8) : Bool := letterI (b.toNat : Int) || b == 95 || b == 58
def laterB (b : UInt8) : Bool := firstB b || digitI (b.toNat : Int) || b == 46 || b == 45
def bareB (b : UInt8) : Bool := !([32, 9, 10, 34, 39, 61, 60, 62, 96] : List UInt8).contains b

set_option maxHeartbeats 400000 in
theorem first_fn (b : UInt8) (w : World) :
    Calls Tryz.prog 233 #[encB b] w fun e w' => e = .returned (.bool (firstB b)) ∧ w = w' := by
  have h0 : (0 : Int) ≤ (b.toNat : Int) := by omega
  have h1 : (b.toNat : Int) < 256 := by have := b.toNat_lt; omega
  have e : firstB b = (letterI (b.toNat : Int) || ((b.toNat : Int) == 95) || ((b.toNat : Int) == 58)) := by
    rw [eq_of_byte (c := 95) 95 rfl, eq_of_byte (c := 58) 58 rfl]; rfl
  rw [e]
  unfold encB
  clear e
  generalize (b.toNat : Int) = n at *
  cases hl : letterI n with
  | true =>
    go_enter Tryz.func233, Tryz.ntmps233
    go_wp2_with (first | (go_at_call 112; (with_reducible refine (letter_any _ h0 h1 _).mono ?_); rintro e w' ⟨rfl, rfl⟩))
    go_ret
    exact ⟨rfl, rfl⟩
  | false =>
    cases h95 : (n == 95) with
    | true =>
      go_enter Tryz.func233, Tryz.ntmps233
      go_wp2_with (first | (go_at_call 112; (with_reducible refine (letter_any _ h0 h1 _).mono ?_); rintro e w' ⟨rfl, rfl⟩))
      go_ret
      exact ⟨rfl, rfl⟩
    | false =>
      go_enter Tryz.func233, Tryz.ntmps233
      go_wp2_with (first | (go_at_call 112; (with_reducible refine (letter_any _ h0 h1 _).mono ?_); rintro e w' ⟨rfl, rfl⟩))
      go_ret
      exact ⟨rfl, rfl⟩

set_option maxHeartbeats 400000 in
theorem later_fn (b : UInt8) (w : World) :
    Calls Tryz.prog 235 #[encB b] w fun e w' => e = .returned (.bool (laterB b)) ∧ w = w' := by
  have e : laterB b = (firstB b || digitI (b.toNat : Int) || ((b.toNat : Int) == 46) || ((b.toNat : Int) == 45)) := by
    rw [eq_of_byte (c := 46) 46 rfl, eq_of_byte (c := 45) 45 rfl]; rfl
  rw [e]
  have HF := fun W => first_fn b W
  clear e
  unfold encB at *
  obtain ⟨f, hf⟩ : ∃ f, firstB b = f := ⟨_, rfl⟩
  rw [hf] at HF ⊢
  clear hf
  generalize (b.toNat : Int) = n at *
  cases f with
  | true =>
    go_enter Tryz.func235, Tryz.ntmps235
    go_wp2_with (first | (go_at_call 233; (with_reducible refine (HF _).mono ?_); rintro e w' ⟨rfl, rfl⟩))
    go_ret
    exact ⟨rfl, rfl⟩
  | false =>
    cases hd : digitI n with
    | true =>
      go_enter Tryz.func235, Tryz.ntmps235
      go_wp2_with (first | (go_at_call 233; (with_reducible refine (HF _).mono ?_); rintro e w' ⟨rfl, rfl⟩) | (go_at_call 161; (with_reducible refine (digit_any _ _).mono ?_); rintro e w' ⟨rfl, rfl⟩))
      go_ret
      exact ⟨rfl, rfl⟩
    | false =>
      cases h46 : (n == 46) with
      | true =>
        go_enter Tryz.func235, Tryz.ntmps235
        go_wp2_with (first | (go_at_call 233; (with_reducible refine (HF _).mono ?_); rintro e w' ⟨rfl, rfl⟩) | (go_at_call 161; (with_reducible refine (digit_any _ _).mono ?_); rintro e w' ⟨rfl, rfl⟩))
        go_ret
        exact ⟨rfl, rfl⟩
      | false =>
        go_enter Tryz.func235, Tryz.ntmps235
        go_wp2_with (first | (go_at_call 233; (with_reducible refine (HF _).mono ?_); rintro e w' ⟨rfl, rfl⟩) | (go_at_call 161; (with_reducible refine (digit_any _ _).mono ?_); rintro e w' ⟨rfl, rfl⟩))
        go_ret
        exact ⟨rfl, rfl⟩

set_option maxHeartbeats 400000 in
theorem bare_fn (b : UInt8) (w : World) :
    Calls Tryz.prog 267 #[encB b] w fun e w' => e = .returned (.bool (bareB b)) ∧ w = w' := by
  obtain ⟨S, hS⟩ : ∃ S : ByteArray, S = ⟨#[32, 9, 10, 34, 39, 61, 60, 62, 96]⟩ := ⟨_, rfl⟩
  unfold encB
  cases hc : S.data.toList.contains b with
  | true =>
    have HX := fun W => idx_yes S b _ rfl _ hc rfl W
    have e : bareB b = false := by unfold bareB; rw [hS] at hc; rw [show (([32, 9, 10, 34, 39, 61, 60, 62, 96] : List UInt8).contains b) = true from hc]; rfl
    rw [e]
    rw [hS] at HX
    clear e hc hS
    generalize ((⟨#[32, 9, 10, 34, 39, 61, 60, 62, 96]⟩ : ByteArray).data.toList.takeWhile (· != b)).length = j at HX
    go_enter Tryz.func267, Tryz.ntmps267
    go_wp2_with (first | (go_at_call 107; (with_reducible refine (HX _).mono ?_); rintro e w' ⟨rfl, rfl⟩))
    go_ret
    exact ⟨ret_bool (by simp), rfl⟩
  | false =>
    have HX := fun W => idx_no S b _ rfl hc W
    have e : bareB b = true := by unfold bareB; rw [hS] at hc; rw [show (([32, 9, 10, 34, 39, 61, 60, 62, 96] : List UInt8).contains b) = false from hc]; rfl
    rw [e]
    rw [hS] at HX
    clear e hc hS
    go_enter Tryz.func267, Tryz.ntmps267
    go_wp2_with (first | (go_at_call 107; (with_reducible refine (HX _).mono ?_); rintro e w' ⟨rfl, rfl⟩))
    go_ret
    exact ⟨rfl, rfl⟩

theorem fnB_later (w : World) : FnB 235 #[] laterB w := ⟨fun W b _ => later_fn b W⟩
theorem fnB_bare (w : World) : FnB 267 #[] bareB w := ⟨fun W b _ => bare_fn b W⟩

/-! ### while -/
def dropT (p : UInt8 → Bool) (t : ByteArray) : ByteArray := mkB (t.data.toList.dropWhile p)

set_option maxHeartbeats 1000000 in
theorem while_any (w0 w : World) (g : Nat) (t : ByteArray) (f : Nat) (p : UInt8 → Bool) (hs : t.size ≤ 1000000) (hI : St w0 w g t) (hp : FnB f #[] p w)
    (eg : ∀ args w, (callFunc f args).run Tryz.prog w = .ok (.enter f args) w) :
    Calls Tryz.prog 234 #[.pointer (some ⟨g, 0, none⟩), .func (.func f) #[] #[]] w fun e w' =>
      e = .returned (.bool (decide ((dropT p t).size < t.size))) ∧ St w0 w' g (dropT p t) := by
  go_enter Tryz.func234, Tryz.ntmps234
  go_wp2
  go_loopw [5] (fun i wr => ∃ k : Nat, k ≤ t.size ∧ i = .int .i64 k ∧ Bl w wr ∧ Hid ((t.data.toList.take k).all p = true)) (fun i _ => t.size - (intOf i).toNat)
  case atStart => exact ⟨0, Nat.zero_le _, rfl, Bl.refl _, Lib.hid (by simp)⟩
  case round =>
    obtain ⟨k, hk, rfl, hb, hall⟩ := hrel
    have h1 := hI.more hb
    have hc := h1.cell
    have hf := h1.free
    by_cases hlt : k < t.size
    · have hfn : Calls Tryz.prog f #[.int .u8 (t[k].toNat : Int)] wr fun e w' => e = .returned (.bool (p t[k])) ∧ wr = w' := hp.out wr t[k] hb
      have HK := Lib.hid (take_succ_all t p k hlt)
      have AT := Lib.hid (at_some t k hlt)
      cases hpk : p t[k] with
      | true =>
        rw [hpk] at hfn
        have P := Lib.hid hpk
        clear hpk
        go_wp2_with (first | (go_at_fn f; (with_reducible refine hfn.mono ?_); rintro e w' ⟨rfl, rfl⟩))
        go_roundw
        case rel => exact ⟨k + 1, by omega, by go_num, hb, Lib.hid (by rw [HK.out, hall.out, P.out]; rfl)⟩
        case measure => simp [intOf]; omega
      | false =>
        rw [hpk] at hfn
        have P := Lib.hid hpk
        have E : t.data.toList.dropWhile p = t.data.toList.drop k := dropWhile_stop p t.data.toList k (by rw [size_len]; exact hk) hall.out (fun a ha => by rw [Option.some.inj (ha.symm.trans AT.out)]; exact hpk)
        have E2 : t.extract k t.size = dropT p t := by refine str_eq ?_; rw [Lib.extract_to_end, dropT, mkB_data, E]
        have S := Lib.hid (h1.set (dropT p t))
        have Z : (dropT p t).size = t.size - k := by unfold dropT; rw [E, mkB_size, List.length_drop, size_len]
        have ZH := Lib.hid Z
        clear hpk E Z
        go_wp2_with (first | (go_at_fn f; (with_reducible refine hfn.mono ?_); rintro e w' ⟨rfl, rfl⟩))
        go_ret
        exact ⟨ret_bool (by rw [ZH.out]; simp; omega), S.out⟩
    · have E : t.data.toList.dropWhile p = t.data.toList.drop k := dropWhile_stop p t.data.toList k (by rw [size_len]; exact hk) hall.out (fun a ha => by rw [at_none t k hlt] at ha; cases ha)
      have E2 : t.extract k t.size = dropT p t := by refine str_eq ?_; rw [Lib.extract_to_end, dropT, mkB_data, E]
      have S := Lib.hid (h1.set (dropT p t))
      have Z : (dropT p t).size = t.size - k := by unfold dropT; rw [E, mkB_size, List.length_drop, size_len]
      have ZH := Lib.hid Z
      clear E Z
      go_wp2
      go_ret
      exact ⟨ret_bool (by rw [ZH.out]; simp; omega), S.out⟩

end Go.Proofs.YtjocbifjmchbcaaGreatDoor
/- The scanner's value, attribute, attributes. -/
namespace Go.Proofs.YtjocbifjmchbcaaGreatDoor
open Go.RowKit

/-- What a value leaves, and whether there is one. -/
def valueL (l : List UInt8) : Bool × List UInt8 :=
  if l.headD 0 == 34 then (if l.tail.contains 34 then (true, (l.tail.dropWhile (· != 34)).tail) else (false, l.tail))
  else if l.headD 0 == 39 then (if l.tail.contains 39 then (true, (l.tail.dropWhile (· != 39)).tail) else (false, l.tail))
  else (decide ((l.dropWhile bareB).length < l.length), l.dropWhile bareB)
def valueOk (t : ByteArray) : Bool := (valueL t.data.toList).1
def valueT (t : ByteArray) : ByteArray := mkB (valueL t.data.toList).2

theorem cell_marked {w : World} {B i : Nat} {cs : Array Value} {t : TypeId} {fr : Nat × Nat} (h : w.heap[B]? = some (.cells cs t fr)) : w.cell? ⟨B, i, none⟩ = cs[i]? := cell_of_row w B i cs t fr h

theorem alloc_new (w : World) (o : Obj) : (w.alloc o).heap[w.heap.size]? = some o := by
  show (w.heap.push o)[w.heap.size]? = _
  simp
structure NoQ (t : ByteArray) (k : Nat) : Prop where
  a : 1 ≤ k → (t.data.toList.headD 0 == 34) = false
  b : 2 ≤ k → (t.data.toList.headD 0 == 39) = false
theorem value_q1 (t : ByteArray) (h : (t.data.toList.headD 0 == 34) = true) : valueOk t = (tailB t).data.toList.contains 34 ∧ valueT t = (if (tailB t).data.toList.contains 34 then afterB 34 (tailB t) else tailB t) := by
  unfold valueOk valueT valueL
  rw [if_pos h, show (tailB t).data.toList = t.data.toList.tail from rfl]
  split <;> rename_i hc
  · exact ⟨hc.symm, rfl⟩
  · exact ⟨by simpa using hc, rfl⟩
theorem value_q2 (t : ByteArray) (h0 : (t.data.toList.headD 0 == 34) = false) (h : (t.data.toList.headD 0 == 39) = true) : valueOk t = (tailB t).data.toList.contains 39 ∧ valueT t = (if (tailB t).data.toList.contains 39 then afterB 39 (tailB t) else tailB t) := by
  unfold valueOk valueT valueL
  rw [if_neg (by rw [h0]; decide), if_pos h, show (tailB t).data.toList = t.data.toList.tail from rfl]
  split <;> rename_i hc
  · exact ⟨hc.symm, rfl⟩
  · exact ⟨by simpa using hc, rfl⟩
theorem value_q3 (t : ByteArray) (h0 : (t.data.toList.headD 0 == 34) = false) (h : (t.data.toList.headD 0 == 39) = false) : valueOk t = decide ((dropT bareB t).size < t.size) ∧ valueT t = dropT bareB t := by
  unfold valueOk valueT valueL
  rw [if_neg (by rw [h0]; decide), if_neg (by rw [h]; decide)]
  exact ⟨by unfold dropT; rw [mkB_size, ← size_len], rfl⟩

set_option maxHeartbeats 1000000 in
theorem value_any (w0 w : World) (g : Nat) (t : ByteArray) (hs : t.size ≤ 1000000) (hI : St w0 w g t) :
    Calls Tryz.prog 236 #[.pointer (some ⟨g, 0, none⟩)] w fun e w' => e = .returned (.bool (valueOk t)) ∧ St w0 w' g (valueT t) := by
  have eg := enters_of Tryz.func267 (by kernel_rfl) rfl
  have kc := fun (w : World) (C : Array Value) (n c : Nat) => Lib.run_convert_bytes_const (P := Tryz.prog) w 37 5 C n c Tryz.underlying37 Tryz.underlying5
  have hgw := hI.lt
  have HI := Lib.hid hI
  go_enter Tryz.func236, Tryz.ntmps236
  go_wp2
  clear kc
  go_loopw [8] (fun i wr => ∃ k : Nat, k ≤ 2 ∧ i = .int .i64 k ∧ St w0 wr g t ∧ wr.heap[w.heap.size]? = some (.cells #[.int .u8 34, .int .u8 39] 5 (2, 3)) ∧ NoQ t k) (fun i _ => 2 - (intOf i).toNat)
  case atStart => exact ⟨0, by omega, rfl, hI.more ((Bl.refl w).alloc _), alloc_new _ _, ⟨by omega, by omega⟩⟩
  case round =>
    obtain ⟨k, hk, rfl, hS, hrow, hno⟩ := hrel
    have c0 : wr.cell? ⟨w.heap.size, 0, none⟩ = some (.int .u8 34) := cell_marked hrow
    have c1 : wr.cell? ⟨w.heap.size, 1, none⟩ = some (.int .u8 39) := cell_marked hrow
    have hgr : w.heap.size ≠ g := by omega
    by_cases h0 : k = 0
    · subst h0
      cases h34 : (t.data.toList.headD 0 == 34) with
      | true =>
        have HV := Lib.hid (value_q1 t h34)
        have H1 := sign_yes w0 wr g t 34 (by decide) 34 rfl hS h34
        have tz : (tailB t).size ≤ 1000000 := by unfold tailB; rw [mkB_size, List.length_tail, size_len]; omega
        clear h34 hno
        go_wp2_with fail
        refine H1.mono ?_
        rintro e w1 ⟨rfl, hS1, hO1⟩
        have H2 := quoted_any w0 w1 g (tailB t) 34 34 rfl tz hS1
        rw [← HV.out.2, ← HV.out.1] at H2
        clear H1 hS1 hO1 c0 c1
        go_wp2_with fail
        refine H2.mono ?_
        rintro e w2 ⟨rfl, hS2⟩
        go_wp2
        go_ret
        exact ⟨rfl, hS2⟩
      | false =>
        have H1 := sign_no w0 wr g t 34 34 rfl hS h34
        have HN := Lib.hid h34
        clear h34
        go_wp2_with (first | (go_at_call 171; (with_reducible refine H1.mono ?_); rintro e w1 ⟨rfl, hS1, hO1⟩))
        go_roundw
        case rel => exact ⟨1, by omega, rfl, hS1, hO1.row hrow hgr, ⟨fun _ => HN.out, by omega⟩⟩
        case measure => simp [intOf]
    · by_cases h1 : k = 1
      · subst h1
        have hn0 := hno.a (by omega)
        cases h39 : (t.data.toList.headD 0 == 39) with
        | true =>
          have HV := Lib.hid (value_q2 t hn0 h39)
          have H1 := sign_yes w0 wr g t 39 (by decide) 39 rfl hS h39
          have tz : (tailB t).size ≤ 1000000 := by unfold tailB; rw [mkB_size, List.length_tail, size_len]; omega
          clear h39 hno hn0
          go_wp2_with fail
          refine H1.mono ?_
          rintro e w1 ⟨rfl, hS1, hO1⟩
          have H2 := quoted_any w0 w1 g (tailB t) 39 39 rfl tz hS1
          rw [← HV.out.2, ← HV.out.1] at H2
          clear H1 hS1 hO1 c0 c1
          go_wp2_with fail
          refine H2.mono ?_
          rintro e w2 ⟨rfl, hS2⟩
          go_wp2
          go_ret
          exact ⟨rfl, hS2⟩
        | false =>
          have H1 := sign_no w0 wr g t 39 39 rfl hS h39
          have HN := Lib.hid h39
          have HN0 := Lib.hid hn0
          clear h39 hn0
          go_wp2_with (first | (go_at_call 171; (with_reducible refine H1.mono ?_); rintro e w1 ⟨rfl, hS1, hO1⟩))
          go_roundw
          case rel => exact ⟨2, by omega, rfl, hS1, hO1.row hrow hgr, ⟨fun _ => HN0.out, fun _ => HN.out⟩⟩
          case measure => simp [intOf]
      · obtain rfl : k = 2 := by omega
        have HV := Lib.hid (value_q3 t (hno.a (by omega)) (hno.b (by omega)))
        have H2 := while_any w0 wr g t 267 bareB hs hS (fnB_bare wr) eg
        rw [← HV.out.1, ← HV.out.2] at H2
        go_wp2_with (first | (go_at_call 234; (with_reducible refine H2.mono ?_); rintro e w1 ⟨rfl, hS1⟩))
        go_ret
        exact ⟨rfl, hS1⟩

/-! ### attribute -/
def whiteL (l : List UInt8) : List UInt8 := cutL whiteS l
/-- Is there an attribute, is it whole, and what is left. -/
def attributeL (l : List UInt8) : Bool × Bool × List UInt8 :=
  if (whiteL l).length < l.length ∧ firstB ((whiteL l).headD 0) = true then
    if (whiteL ((whiteL l).dropWhile laterB)).headD 0 == 61 then (true, valueL (whiteL (whiteL ((whiteL l).dropWhile laterB)).tail))
    else (true, true, (whiteL l).dropWhile laterB)
  else (false, true, l)
def attrIs (t : ByteArray) : Bool := (attributeL t.data.toList).1
def attrWhole (t : ByteArray) : Bool := (attributeL t.data.toList).2.1
def attrT (t : ByteArray) : ByteArray := mkB (attributeL t.data.toList).2.2

theorem attr_no (t : ByteArray) (h : ¬ ((whiteT t).size < t.size ∧ firstB ((whiteT t).data.toList.headD 0) = true)) : attrIs t = false ∧ attrWhole t = true ∧ attrT t = t := by
  have hw : (whiteT t).size = (whiteL t.data.toList).length := mkB_size _
  rw [hw, ← size_len] at h
  have h' : ¬ ((whiteL t.data.toList).length < t.data.toList.length ∧ firstB ((whiteL t.data.toList).headD 0) = true) := h
  unfold attrIs attrWhole attrT attributeL
  rw [if_neg h']
  exact ⟨rfl, rfl, mkB_self t⟩
theorem attr_bare (t : ByteArray) (h : (whiteT t).size < t.size) (h1 : firstB ((whiteT t).data.toList.headD 0) = true) (h2 : ((whiteT (dropT laterB (whiteT t))).data.toList.headD 0 == 61) = false) :
    attrIs t = true ∧ attrWhole t = true ∧ attrT t = dropT laterB (whiteT t) := by
  have hw : (whiteT t).size = (whiteL t.data.toList).length := mkB_size _
  rw [hw, ← size_len] at h
  unfold attrIs attrWhole attrT attributeL
  rw [if_pos ⟨h, h1⟩, if_neg (by rw [show whiteL ((whiteL t.data.toList).dropWhile laterB) = (whiteT (dropT laterB (whiteT t))).data.toList from rfl, h2]; decide)]
  exact ⟨rfl, rfl, rfl⟩
theorem attr_value (t : ByteArray) (h : (whiteT t).size < t.size) (h1 : firstB ((whiteT t).data.toList.headD 0) = true) (h2 : ((whiteT (dropT laterB (whiteT t))).data.toList.headD 0 == 61) = true) :
    attrIs t = true ∧ attrWhole t = valueOk (whiteT (tailB (whiteT (dropT laterB (whiteT t))))) ∧ attrT t = valueT (whiteT (tailB (whiteT (dropT laterB (whiteT t))))) := by
  have hw : (whiteT t).size = (whiteL t.data.toList).length := mkB_size _
  rw [hw, ← size_len] at h
  unfold attrIs attrWhole attrT attributeL
  rw [if_pos ⟨h, h1⟩, if_pos (by rw [show whiteL ((whiteL t.data.toList).dropWhile laterB) = (whiteT (dropT laterB (whiteT t))).data.toList from rfl, h2])]
  exact ⟨rfl, rfl, rfl⟩
theorem whiteT_le (t : ByteArray) : (whiteT t).size ≤ t.size := by
  unfold whiteT; rw [mkB_size, ← size_len]; exact cutL_le _ _
theorem dropT_le (p : UInt8 → Bool) (t : ByteArray) : (dropT p t).size ≤ t.size := by
  unfold dropT; rw [mkB_size, ← size_len]; exact (List.dropWhile_sublist _).length_le
theorem tailB_le (t : ByteArray) : (tailB t).size ≤ t.size := by
  unfold tailB; rw [mkB_size, List.length_tail, size_len]; omega

set_option maxHeartbeats 1000000 in
theorem attribute_any (w0 w : World) (g : Nat) (t : ByteArray) (hs : t.size ≤ 1000000) (hI : St w0 w g t) :
    Calls Tryz.prog 174 #[.pointer (some ⟨g, 0, none⟩)] w fun e w' => e = .returned (.tuple #[.bool (attrIs t), .bool (attrWhole t)]) ∧ St w0 w' g (attrT t) := by
  have eg := enters_of Tryz.func235 (by kernel_rfl) rfl
  have HW := white_any w0 w g t hs hI
  have hz := whiteT_le t
  have hc := hI.cell
  by_cases h : (whiteT t).size < t.size
  · cases h1 : firstB ((whiteT t).data.toList.headD 0) with
    | false =>
      have R := Lib.hid (attr_no t (fun x => by rw [h1] at x; exact absurd x.2 (by decide)))
      rw [decide_eq_true h] at HW
      obtain ⟨u, hu⟩ : ∃ u, whiteT t = u := ⟨_, rfl⟩
      rw [hu] at HW h1 hz
      clear hu h
      rcases Nat.eq_zero_or_pos u.size with e0 | hp
      · obtain rfl := str_nil e0
        clear h1
        go_enter Tryz.func174, Tryz.ntmps174
        go_wp2_with fail
        refine HW.mono ?_
        rintro e w1 ⟨rfl, hS1⟩
        have hc1 := hS1.cell
        have hf1 := hS1.free
        have S := Lib.hid (hS1.set t)
        clear hS1 HW
        go_wp2
        go_ret2
        exact ⟨by rw [R.out.1, R.out.2.1]; rfl, by rw [R.out.2.2]; exact S.out⟩
      · have e1 := isEmpty_false hp
        have HF : ∀ W, Calls Tryz.prog 233 #[.int .u8 (u[0].toNat : Int)] W fun e w' => e = .returned (.bool false) ∧ W = w' := by
          intro W; have := first_fn u[0] W; rw [← headD_at u hp, h1] at this; rw [← headD_at u hp]; exact this
        clear h1
        go_enter Tryz.func174, Tryz.ntmps174
        go_wp2_with fail
        refine HW.mono ?_
        rintro e w1 ⟨rfl, hS1⟩
        have hc1 := hS1.cell
        have hf1 := hS1.free
        have S := Lib.hid (hS1.set t)
        clear hS1 HW
        go_wp2_with (first | (go_at_call 233; (with_reducible refine (HF _).mono ?_); rintro e w' ⟨rfl, rfl⟩))
        go_ret2
        exact ⟨by rw [R.out.1, R.out.2.1]; rfl, by rw [R.out.2.2]; exact S.out⟩
    | true =>
      have R2 := Lib.hid (attr_bare t h h1)
      have R3 := Lib.hid (attr_value t h h1)
      rw [decide_eq_true h] at HW
      obtain ⟨u, hu⟩ : ∃ u, whiteT t = u := ⟨_, rfl⟩
      rw [hu] at HW h1 hz R2 R3
      clear hu h
      have hp : 0 < u.size := by
        rcases Nat.eq_zero_or_pos u.size with e0 | hp
        · obtain rfl := str_nil e0; exact absurd h1 (by decide)
        · exact hp
      have e1 := isEmpty_false hp
      have HF : ∀ W, Calls Tryz.prog 233 #[.int .u8 (u[0].toNat : Int)] W fun e w' => e = .returned (.bool true) ∧ W = w' := by
        intro W; have := first_fn u[0] W; rw [← headD_at u hp, h1] at this; rw [← headD_at u hp]; exact this
      clear h1
      have hv : (dropT laterB u).size ≤ 1000000 := by have := dropT_le laterB u; omega
      have HB := fun W0 W hS => while_any W0 W g u 235 laterB (by omega) hS (fnB_later W) eg
      obtain ⟨v, hvv⟩ : ∃ v, dropT laterB u = v := ⟨_, rfl⟩
      rw [hvv] at HB hv R2 R3
      clear hvv
      have hx := whiteT_le v
      have HW2 := fun W hS => white_any w0 W g v hv hS
      obtain ⟨x, hxx⟩ : ∃ x, whiteT v = x := ⟨_, rfl⟩
      rw [hxx] at hx HW2 R2 R3
      clear hxx
      cases h61 : (x.data.toList.headD 0 == 61) with
      | false =>
        have R := Lib.hid (R2.out h61)
        have H61 := Lib.hid h61
        clear R2 R3 h61
        go_enter Tryz.func174, Tryz.ntmps174
        go_wp2_with fail
        refine HW.mono ?_
        rintro e w1 ⟨rfl, hS1⟩
        have hc1 := hS1.cell
        have S1 := Lib.hid hS1
        clear hS1 HW
        go_wp2_with (first | (go_at_call 233; (with_reducible refine (HF _).mono ?_); rintro e w' ⟨rfl, rfl⟩) | (go_at_call 234; fail))
        refine (HB w0 _ S1.out).mono ?_
        rintro e w2 ⟨rfl, hS2⟩
        have hc2 := hS2.cell
        have HW3 := HW2 _ hS2
        clear hS2 HW2 HB
        go_wp2_with fail
        refine HW3.mono ?_
        rintro e w3 ⟨rfl, hS3⟩
        have HN := sign_no w0 w3 g x 61 61 rfl hS3 H61.out
        clear hS3 HW3
        go_wp2_with fail
        refine HN.mono ?_
        rintro e w4 ⟨rfl, hS4, _⟩
        have hc4 := hS4.cell
        have hf4 := hS4.free
        have S := Lib.hid (hS4.set v)
        clear hS4 HN
        go_wp2
        go_ret2
        exact ⟨by rw [R.out.1, R.out.2.1]; rfl, by rw [R.out.2.2]; exact S.out⟩
      | true =>
        have R := Lib.hid (R3.out h61)
        have H61 := Lib.hid h61
        clear R2 R3 h61
        have hy := tailB_le x
        obtain ⟨y, hyy⟩ : ∃ y, tailB x = y := ⟨_, rfl⟩
        rw [hyy] at R hy
        have hzz := whiteT_le y
        have HW4 := fun W hS => white_any w0 W g y (by omega) hS
        obtain ⟨z, hz2⟩ : ∃ z, whiteT y = z := ⟨_, rfl⟩
        rw [hz2] at R hzz HW4
        have Y := Lib.hid hyy
        clear hyy hz2
        go_enter Tryz.func174, Tryz.ntmps174
        go_wp2_with fail
        refine HW.mono ?_
        rintro e w1 ⟨rfl, hS1⟩
        have hc1 := hS1.cell
        have S1 := Lib.hid hS1
        clear hS1 HW
        go_wp2_with (first | (go_at_call 233; (with_reducible refine (HF _).mono ?_); rintro e w' ⟨rfl, rfl⟩) | (go_at_call 234; fail))
        refine (HB w0 _ S1.out).mono ?_
        rintro e w2 ⟨rfl, hS2⟩
        have hc2 := hS2.cell
        have HW3 := HW2 _ hS2
        clear hS2 HW2 HB
        go_wp2_with fail
        refine HW3.mono ?_
        rintro e w3 ⟨rfl, hS3⟩
        have HN := sign_yes w0 w3 g x 61 (by decide) 61 rfl hS3 H61.out
        rw [Y.out] at HN
        clear hS3 HW3
        go_wp2_with fail
        refine HN.mono ?_
        rintro e w4 ⟨rfl, hS4, _⟩
        have HW5 := HW4 _ hS4
        clear hS4 HN HW4
        go_wp2_with fail
        refine HW5.mono ?_
        rintro e w5 ⟨rfl, hS5⟩
        have HV := value_any w0 w5 g z (by omega) hS5
        clear hS5 HW5
        go_wp2_with fail
        refine HV.mono ?_
        rintro e w6 ⟨rfl, hS6⟩
        clear HV
        go_wp2
        go_ret2
        exact ⟨by rw [R.out.1, R.out.2.1]; rfl, by rw [R.out.2.2]; exact hS6⟩
  · have R := Lib.hid (attr_no t (fun x => h x.1))
    rw [decide_eq_false h] at HW
    obtain ⟨u, hu⟩ : ∃ u, whiteT t = u := ⟨_, rfl⟩
    rw [hu] at HW hz
    clear hu h
    go_enter Tryz.func174, Tryz.ntmps174
    go_wp2_with fail
    refine HW.mono ?_
    rintro e w1 ⟨rfl, hS1⟩
    have hc1 := hS1.cell
    have hf1 := hS1.free
    have S := Lib.hid (hS1.set t)
    clear hS1 HW
    go_wp2
    go_ret2
    exact ⟨by rw [R.out.1, R.out.2.1]; rfl, by rw [R.out.2.2]; exact S.out⟩

end Go.Proofs.YtjocbifjmchbcaaGreatDoor
/- The scanner's attributes. -/
namespace Go.Proofs.YtjocbifjmchbcaaGreatDoor
open Go.RowKit

/-- All attributes: are they whole, and what is left. -/
def attrsL : Nat → List UInt8 → Bool × List UInt8
  | 0, l => (true, l)
  | f + 1, l => if (attributeL l).1 && (attributeL l).2.1 then attrsL f (attributeL l).2.2 else (attributeL l).2
def attrsOk (t : ByteArray) : Bool := (attrsL (t.size + 1) t.data.toList).1
def attrsT (t : ByteArray) : ByteArray := mkB (attrsL (t.size + 1) t.data.toList).2

theorem valueL_le (l : List UInt8) : (valueL l).2.length ≤ l.length := by
  have hd : ∀ (p : UInt8 → Bool) (m : List UInt8), (m.dropWhile p).length ≤ m.length := fun p m => (List.dropWhile_sublist _).length_le
  have ht : l.tail.length ≤ l.length := by rw [List.length_tail]; omega
  unfold valueL
  split
  · split
    · have := hd (· != 34) l.tail; simp only [List.length_tail] at *; omega
    · exact ht
  · split
    · split
      · have := hd (· != 39) l.tail; simp only [List.length_tail] at *; omega
      · exact ht
    · exact hd _ _
theorem attributeL_lt (l : List UInt8) (h : (attributeL l).1 = true) : (attributeL l).2.2.length < l.length := by
  have hd : ∀ (p : UInt8 → Bool) (m : List UInt8), (m.dropWhile p).length ≤ m.length := fun p m => (List.dropWhile_sublist _).length_le
  unfold attributeL at *
  split
  · rename_i h1
    have a1 := hd laterB (whiteL l)
    split
    · have a2 := valueL_le (whiteL (whiteL ((whiteL l).dropWhile laterB)).tail)
      have a3 := cutL_le whiteS (whiteL ((whiteL l).dropWhile laterB)).tail
      have a4 := cutL_le whiteS ((whiteL l).dropWhile laterB)
      simp only [List.length_tail, whiteL] at *
      omega
    · simp only []; omega
  · rename_i h1
    rw [if_neg h1] at h; cases h

set_option maxHeartbeats 1000000 in
theorem attributes_any (w0 w : World) (g : Nat) (t : ByteArray) (hs : t.size ≤ 1000000) (hI : St w0 w g t) :
    Calls Tryz.prog 173 #[.pointer (some ⟨g, 0, none⟩), .func (.func 174) #[.pointer (some ⟨g, 0, none⟩)] #[]] w fun e w' =>
      e = .returned (.bool (attrsOk t)) ∧ St w0 w' g (attrsT t) := by
  have eg := enters_of Tryz.func174 (by kernel_rfl) rfl
  go_enter Tryz.func173, Tryz.ntmps173
  go_wp2
  go_loopg [] (t.size + 1) (fun f wr => ∃ u : ByteArray, u.size < f ∧ u.size ≤ t.size ∧ St w0 wr g u ∧ Hid (attrsL (t.size + 1) t.data.toList = attrsL f u.data.toList))
  case atStart => exact ⟨t, by omega, Nat.le_refl _, hI, Lib.hid rfl⟩
  case round =>
    obtain ⟨u, hu, hut, hS, hrel⟩ := hrel
    cases gk with
    | zero => omega
    | succ f =>
      have HA := attribute_any w0 wr g u (by omega) hS
      obtain ⟨i, hi⟩ : ∃ i, attrIs u = i := ⟨_, rfl⟩
      obtain ⟨o, ho⟩ : ∃ o, attrWhole u = o := ⟨_, rfl⟩
      have R := Lib.hid (show attrsL (f + 1) u.data.toList = if i && o then attrsL f (attrT u).data.toList else (o, (attrT u).data.toList) by
        rw [attrsL, show (attributeL u.data.toList).1 = i from hi, show (attributeL u.data.toList).2.1 = o from ho]
        have : (attributeL u.data.toList).2 = (o, (attrT u).data.toList) := by rw [← ho]; rfl
        rw [this])
      have hlt : i = true → (attrT u).size < u.size := by
        intro e; rw [← hi] at e
        have := attributeL_lt u.data.toList e
        unfold attrT; rw [mkB_size, ← size_len]; exact this
      rw [hi, ho] at HA
      clear hi ho
      obtain ⟨v, hv⟩ : ∃ v, attrT u = v := ⟨_, rfl⟩
      rw [hv] at HA R hlt
      clear hv
      have LT := Lib.hid hlt
      clear hlt
      cases i with
      | false =>
        go_wp2_with fail
        refine HA.mono ?_
        rintro e w1 ⟨rfl, hS1⟩
        go_wp2
        go_ret
        have e1 : attrsL (t.size + 1) t.data.toList = (o, v.data.toList) := by rw [hrel.out, R.out]; rfl
        exact ⟨ret_bool (by unfold attrsOk; rw [e1]), by unfold attrsT; rw [e1, mkB_self]; exact hS1⟩
      | true =>
        cases o with
        | false =>
          go_wp2_with fail
          refine HA.mono ?_
          rintro e w1 ⟨rfl, hS1⟩
          go_wp2
          go_ret
          have e1 : attrsL (t.size + 1) t.data.toList = (false, v.data.toList) := by rw [hrel.out, R.out]; rfl
          exact ⟨ret_bool (by unfold attrsOk; rw [e1]), by unfold attrsT; rw [e1, mkB_self]; exact hS1⟩
        | true =>
          go_wp2_with fail
          refine HA.mono ?_
          rintro e w1 ⟨rfl, hS1⟩
          go_wp2
          go_roundg f
          case rel => exact ⟨v, by have := LT.out (by trivial); omega, by have := LT.out (by trivial); omega, hS1, Lib.hid (by rw [hrel.out, R.out]; rfl)⟩
          case measure => omega

end Go.Proofs.YtjocbifjmchbcaaGreatDoor
/- The contract of scan.Tag. -/
namespace Go.Proofs.YtjocbifjmchbcaaGreatDoor
open Go.RowKit

/-- What is left where a tag's last byte should stand. -/
def tagEnd (closing : Bool) (l : List UInt8) : List UInt8 := if !closing && (whiteL l).headD 0 == 47 then (whiteL l).tail else whiteL l
/-- The text behind "<" or "</", and whether it was "</". -/
def tagHead (l : List UInt8) : Bool × List UInt8 := if l.headD 0 == 47 then (true, l.tail) else (false, l)
/-- Behind the name: are the attributes whole, and what is left. -/
def tagMid (closing : Bool) (l : List UInt8) : Bool × List UInt8 := if closing then (true, l) else attrsL (l.length + 1) l
def tagRest (l : List UInt8) : Option (List UInt8) :=
  if l.headD 0 == 60 then
    if (namedL (tagHead l.tail).2).1.isEmpty then none
    else if (tagMid (tagHead l.tail).1 (namedL (tagHead l.tail).2).2).1 then
      if (tagEnd (tagHead l.tail).1 (tagMid (tagHead l.tail).1 (namedL (tagHead l.tail).2).2).2).headD 0 == 62 then
        some (tagEnd (tagHead l.tail).1 (tagMid (tagHead l.tail).1 (namedL (tagHead l.tail).2).2).2).tail
      else none
    else none
  else none
/-- How long a tag is. -/
def tagL (l : List UInt8) : Nat := match tagRest l with
  | none => 0
  | some r => l.length - r.length

theorem namedL_le (l : List UInt8) : (namedL l).2.length ≤ l.length := by
  unfold namedL
  split
  · have := (List.dropWhile_sublist nameB (l := l.tail)).length_le
    simp only [List.length_tail] at this ⊢; omega
  · exact Nat.le_refl _
theorem attributeL_le (l : List UInt8) : (attributeL l).2.2.length ≤ l.length := by
  cases h : (attributeL l).1 with
  | true => exact Nat.le_of_lt (attributeL_lt l h)
  | false =>
    unfold attributeL at *
    split
    · rename_i h1
      rw [if_pos h1] at h
      split at h <;> cases h
    · exact Nat.le_refl _
theorem attrsL_le : ∀ (f : Nat) (l : List UInt8), (attrsL f l).2.length ≤ l.length
  | 0, l => Nat.le_refl _
  | f + 1, l => by
    unfold attrsL
    split
    · exact Nat.le_trans (attrsL_le f _) (attributeL_le l)
    · exact attributeL_le l

set_option maxHeartbeats 2000000 in
theorem tag_any (s : ByteArray) (w : World) (hs : s.size ≤ 1000000) :
    Calls Tryz.prog 111 #[.string s] w fun e w' => e = .returned (.int .i64 (tagL s.data.toList)) ∧ Bl w w' := by
  have hst : St w (w.alloc (.cells #[.string s] 207)) w.heap.size s := ⟨alloc_new _ _, Nat.le_refl _, (Bl.refl w).alloc _⟩
  cases h60 : (s.data.toList.headD 0 == 60) with
  | false =>
    have HN := sign_no w _ _ s 60 60 rfl hst h60
    have R := Lib.hid (show tagL s.data.toList = 0 by unfold tagL tagRest; rw [if_neg (by rw [h60]; decide)])
    clear h60 hst
    go_enter Tryz.func111, Tryz.ntmps111
    go_wp2_with fail
    refine HN.mono ?_
    rintro e w1 ⟨rfl, hS1, _⟩
    have hb := hS1.bl
    clear hS1 HN
    go_wp2
    go_ret
    exact ⟨ret_int (by rw [R.out]; rfl), hb⟩
  | true =>
    have HN := sign_yes w _ _ s 60 (by decide) 60 rfl hst h60
    have hz1 := tailB_le s
    have hz2 := tailB_le (tailB s)
    have RT2 : tagRest s.data.toList = tagRest s.data.toList := rfl
    conv at RT2 => rhs; rw [tagRest, if_pos h60]
    have RT := Lib.hid RT2
    clear RT2
    obtain ⟨t1, ht1⟩ : ∃ t1, tailB s = t1 := ⟨_, rfl⟩
    have hd1 : s.data.toList.tail = t1.data.toList := by rw [← ht1]; rfl
    rw [ht1] at HN hz1 hz2
    rw [hd1] at RT
    clear h60 hst hd1 ht1
    cases h47 : (t1.data.toList.headD 0 == 47) with
    | true =>
      obtain ⟨t2, ht2⟩ : ∃ t2, tailB t1 = t2 := ⟨_, rfl⟩
      have HH : tagHead t1.data.toList = (true, t2.data.toList) := by unfold tagHead; rw [if_pos h47, ← ht2]; rfl
      rw [ht2] at hz2
      have T2 := Lib.hid ht2
      clear ht2
      rw [HH] at RT
      have H47 := Lib.hid h47
      clear h47 HH
      have HNM := fun W => named_any t2 W (by omega)
      have hzr : (restT t2).size ≤ t2.size := by unfold restT; rw [mkB_size, ← size_len]; exact namedL_le _
      obtain ⟨r, hr⟩ : ∃ r, restT t2 = r := ⟨_, rfl⟩
      obtain ⟨n, hn⟩ : ∃ n, nameT t2 = n := ⟨_, rfl⟩
      have hr2 : (namedL t2.data.toList).2 = r.data.toList := by rw [← hr]; rfl
      have hn2 : (namedL t2.data.toList).1 = n.data.toList := by rw [← hn]; rfl
      rw [hr, hn] at HNM
      rw [hr] at hzr
      rw [hr2, hn2] at RT
      clear hr hn hr2 hn2
      rcases Nat.eq_zero_or_pos n.size with e0 | hp
      · obtain rfl := str_nil e0
        have R := Lib.hid (show tagL s.data.toList = 0 by unfold tagL; rw [show tagRest s.data.toList = none from RT.out.trans (if_pos rfl)])
        clear e0
        go_enter Tryz.func111, Tryz.ntmps111
        go_wp2_with fail
        refine HN.mono ?_
        rintro e w1 ⟨rfl, hS1, _⟩
        have H2 := sign_yes w w1 _ t1 47 (by decide) 47 rfl hS1 H47.out
        rw [T2.out] at H2
        clear hS1 HN
        go_wp2_with fail
        refine H2.mono ?_
        rintro e w2 ⟨rfl, hS2, _⟩
        have hc2 := hS2.cell
        have S2 := Lib.hid hS2
        clear hS2 H2
        go_wp2_with fail
        refine (HNM _).mono ?_
        rintro e w3 ⟨rfl, hb3⟩
        have hS3 := S2.out.more hb3
        have hc3 := hS3.cell
        have hf3 := hS3.free
        have S3 := Lib.hid (hS3.set r)
        clear hS3 HNM
        go_wp2
        go_ret
        exact ⟨ret_int (by rw [R.out]; rfl), S3.out.bl⟩
      · have e1 := isEmpty_false hp
        have e2 := data_isEmpty_false hp
        have RU := RT.out
        rw [if_neg (show ¬ n.data.toList.isEmpty = true by rw [e2]; decide)] at RU
        clear RT
        have RT := Lib.hid RU
        clear RU e2
        have RU := RT.out
        rw [show tagMid true r.data.toList = (true, r.data.toList) from rfl, if_pos rfl] at RU
        clear RT
        have HWH := fun W hS => white_any w W w.heap.size r (by omega) hS
        obtain ⟨x, hx⟩ : ∃ x, whiteT r = x := ⟨_, rfl⟩
        rw [hx] at HWH
        have hx2 : tagEnd true r.data.toList = x.data.toList := by rw [← hx]; rfl
        rw [show ((true, r.data.toList) : Bool × List UInt8).2 = r.data.toList from rfl, hx2] at RU
        have hxz : x.size ≤ r.size := by rw [← hx]; exact whiteT_le r
        clear hx hx2
        cases h62 : (x.data.toList.headD 0 == 62) with
        | true =>
          rw [if_pos h62] at RU
          have HGT := fun W hS => sign_yes w W w.heap.size x 62 (by decide) 62 rfl hS h62
          obtain ⟨y, hy⟩ : ∃ y, tailB x = y := ⟨_, rfl⟩
          have hyz : y.size ≤ x.size := by rw [← hy]; exact tailB_le x
          have R := Lib.hid (show (tagL s.data.toList : Int) = (s.size : Int) - (y.size : Int) by
            unfold tagL; rw [RU, show x.data.toList.tail = y.data.toList by rw [← hy]; rfl]
            simp only [size_len]; omega)
          rw [hy] at HGT
          clear hy RU h62
          go_enter Tryz.func111, Tryz.ntmps111
          go_wp2_with fail
          refine HN.mono ?_
          rintro e w1 ⟨rfl, hS1, _⟩
          have H2 := sign_yes w w1 _ t1 47 (by decide) 47 rfl hS1 H47.out
          rw [T2.out] at H2
          clear hS1 HN
          go_wp2_with fail
          refine H2.mono ?_
          rintro e w2 ⟨rfl, hS2, _⟩
          have hc2 := hS2.cell
          have S2 := Lib.hid hS2
          clear hS2 H2
          go_wp2_with fail
          refine (HNM _).mono ?_
          rintro e w3 ⟨rfl, hb3⟩
          have hS3 := S2.out.more hb3
          have hc3 := hS3.cell
          have hf3 := hS3.free
          have S3 := Lib.hid (hS3.set r)
          clear hS3 HNM
          go_wp2_with fail
          refine (HWH _ S3.out).mono ?_
          rintro e w5 ⟨rfl, hS5⟩
          have S5 := Lib.hid hS5
          clear hS5 HWH
          go_wp2_with fail
          refine (HGT _ S5.out).mono ?_
          rintro e w7 ⟨rfl, hS7, _⟩
          have hc7 := hS7.cell
          have hb7 := hS7.bl
          clear hS7 HGT
          go_wp2
          go_ret
          exact ⟨ret_int (by rw [R.out]; try omega), hb7⟩
        | false =>
          rw [if_neg (by rw [h62]; decide)] at RU
          have HGT := fun W hS => sign_no w W w.heap.size x 62 62 rfl hS h62
          have R := Lib.hid (show tagL s.data.toList = 0 by unfold tagL; rw [RU])
          clear RU h62
          go_enter Tryz.func111, Tryz.ntmps111
          go_wp2_with fail
          refine HN.mono ?_
          rintro e w1 ⟨rfl, hS1, _⟩
          have H2 := sign_yes w w1 _ t1 47 (by decide) 47 rfl hS1 H47.out
          rw [T2.out] at H2
          clear hS1 HN
          go_wp2_with fail
          refine H2.mono ?_
          rintro e w2 ⟨rfl, hS2, _⟩
          have hc2 := hS2.cell
          have S2 := Lib.hid hS2
          clear hS2 H2
          go_wp2_with fail
          refine (HNM _).mono ?_
          rintro e w3 ⟨rfl, hb3⟩
          have hS3 := S2.out.more hb3
          have hc3 := hS3.cell
          have hf3 := hS3.free
          have S3 := Lib.hid (hS3.set r)
          clear hS3 HNM
          go_wp2_with fail
          refine (HWH _ S3.out).mono ?_
          rintro e w5 ⟨rfl, hS5⟩
          have S5 := Lib.hid hS5
          clear hS5 HWH
          go_wp2_with fail
          refine (HGT _ S5.out).mono ?_
          rintro e w7 ⟨rfl, hS7, _⟩
          have hc7 := hS7.cell
          have hb7 := hS7.bl
          clear hS7 HGT
          go_wp2
          go_ret
          exact ⟨ret_int (by rw [R.out]; rfl), hb7⟩
    | false =>
      obtain ⟨t2, ht2⟩ : ∃ t2, t1 = t2 := ⟨_, rfl⟩
      subst ht2
      have HH : tagHead t1.data.toList = (false, t1.data.toList) := by unfold tagHead; rw [if_neg (by rw [h47]; decide)]
      rw [HH] at RT
      have H47 := Lib.hid h47
      clear h47 HH
      have HNM := fun W => named_any t1 W (by omega)
      have hzr : (restT t1).size ≤ t1.size := by unfold restT; rw [mkB_size, ← size_len]; exact namedL_le _
      obtain ⟨r, hr⟩ : ∃ r, restT t1 = r := ⟨_, rfl⟩
      obtain ⟨n, hn⟩ : ∃ n, nameT t1 = n := ⟨_, rfl⟩
      have hr2 : (namedL t1.data.toList).2 = r.data.toList := by rw [← hr]; rfl
      have hn2 : (namedL t1.data.toList).1 = n.data.toList := by rw [← hn]; rfl
      rw [hr, hn] at HNM
      rw [hr] at hzr
      rw [hr2, hn2] at RT
      clear hr hn hr2 hn2
      rcases Nat.eq_zero_or_pos n.size with e0 | hp
      · obtain rfl := str_nil e0
        have R := Lib.hid (show tagL s.data.toList = 0 by unfold tagL; rw [show tagRest s.data.toList = none from RT.out.trans (if_pos rfl)])
        clear e0
        go_enter Tryz.func111, Tryz.ntmps111
        go_wp2_with fail
        refine HN.mono ?_
        rintro e w1 ⟨rfl, hS1, _⟩
        have H2 := sign_no w w1 _ t1 47 47 rfl hS1 H47.out
        clear hS1 HN
        go_wp2_with fail
        refine H2.mono ?_
        rintro e w2 ⟨rfl, hS2, _⟩
        have hc2 := hS2.cell
        have S2 := Lib.hid hS2
        clear hS2 H2
        go_wp2_with fail
        refine (HNM _).mono ?_
        rintro e w3 ⟨rfl, hb3⟩
        have hS3 := S2.out.more hb3
        have hc3 := hS3.cell
        have hf3 := hS3.free
        have S3 := Lib.hid (hS3.set r)
        clear hS3 HNM
        go_wp2
        go_ret
        exact ⟨ret_int (by rw [R.out]; rfl), S3.out.bl⟩
      · have e1 := isEmpty_false hp
        have e2 := data_isEmpty_false hp
        have RU := RT.out
        rw [if_neg (show ¬ n.data.toList.isEmpty = true by rw [e2]; decide)] at RU
        clear RT
        have RT := Lib.hid RU
        clear RU e2
        have HAT := fun W hS => attributes_any w W w.heap.size r (by omega) hS
        have RU := RT.out
        clear RT
        obtain ⟨k, hk⟩ : ∃ k, attrsOk r = k := ⟨_, rfl⟩
        obtain ⟨u, hu⟩ : ∃ u, attrsT r = u := ⟨_, rfl⟩
        have hm : tagMid false r.data.toList = (k, u.data.toList) := by
          rw [← hk, ← hu]; unfold tagMid attrsOk attrsT
          rw [if_neg (by decide), size_len]; rfl
        have huz : u.size ≤ r.size := by rw [← hu]; unfold attrsT; rw [mkB_size, ← size_len]; exact attrsL_le _ _
        rw [hk, hu] at HAT
        rw [hm] at RU
        clear hk hu hm
        cases k with
        | false =>
          have R := Lib.hid (show tagL s.data.toList = 0 by unfold tagL; rw [show tagRest s.data.toList = none from RU.trans (if_neg Bool.false_ne_true)])
          clear RU
          go_enter Tryz.func111, Tryz.ntmps111
          go_wp2_with fail
          refine HN.mono ?_
          rintro e w1 ⟨rfl, hS1, _⟩
          have H2 := sign_no w w1 _ t1 47 47 rfl hS1 H47.out
          clear hS1 HN
          go_wp2_with fail
          refine H2.mono ?_
          rintro e w2 ⟨rfl, hS2, _⟩
          have hc2 := hS2.cell
          have S2 := Lib.hid hS2
          clear hS2 H2
          go_wp2_with fail
          refine (HNM _).mono ?_
          rintro e w3 ⟨rfl, hb3⟩
          have hS3 := S2.out.more hb3
          have hc3 := hS3.cell
          have hf3 := hS3.free
          have S3 := Lib.hid (hS3.set r)
          clear hS3 HNM
          go_wp2_with fail
          refine (HAT _ S3.out).mono ?_
          rintro e w4 ⟨rfl, hS4⟩
          have S4 := Lib.hid hS4
          clear hS4 HAT
          go_wp2
          go_ret
          exact ⟨ret_int (by rw [R.out]; rfl), S4.out.bl⟩
        | true =>
          rw [if_pos rfl] at RU
          have HWH := fun W hS => white_any w W w.heap.size u (by omega) hS
          obtain ⟨x, hx⟩ : ∃ x, whiteT u = x := ⟨_, rfl⟩
          rw [hx] at HWH
          have hxz : x.size ≤ u.size := by rw [← hx]; exact whiteT_le u
          have hx2 : tagEnd false u.data.toList = if x.data.toList.headD 0 == 47 then x.data.toList.tail else x.data.toList := by rw [← hx]; rfl
          rw [show ((true, u.data.toList) : Bool × List UInt8).2 = u.data.toList from rfl, hx2] at RU
          clear hx hx2
          cases hsl : (x.data.toList.headD 0 == 47) with
          | true =>
            have HSL := fun W hS => sign_yes w W w.heap.size x 47 (by decide) 47 rfl hS hsl
            obtain ⟨z, hz⟩ : ∃ z, tailB x = z := ⟨_, rfl⟩
            have hzz : z.size ≤ x.size := by rw [← hz]; exact tailB_le x
            rw [if_pos hsl, show x.data.toList.tail = z.data.toList by rw [← hz]; rfl] at RU
            rw [hz] at HSL
            clear hz hsl
            cases h62 : (z.data.toList.headD 0 == 62) with
            | true =>
              rw [if_pos h62] at RU
              have HGT := fun W hS => sign_yes w W w.heap.size z 62 (by decide) 62 rfl hS h62
              obtain ⟨y, hy⟩ : ∃ y, tailB z = y := ⟨_, rfl⟩
              have hyz : y.size ≤ z.size := by rw [← hy]; exact tailB_le _
              have R := Lib.hid (show (tagL s.data.toList : Int) = (s.size : Int) - (y.size : Int) by
                unfold tagL; rw [RU, show z.data.toList.tail = y.data.toList by rw [← hy]; rfl]
                simp only [size_len]; omega)
              rw [hy] at HGT
              clear hy RU h62
              go_enter Tryz.func111, Tryz.ntmps111
              go_wp2_with fail
              refine HN.mono ?_
              rintro e w1 ⟨rfl, hS1, _⟩
              have H2 := sign_no w w1 _ t1 47 47 rfl hS1 H47.out
              clear hS1 HN
              go_wp2_with fail
              refine H2.mono ?_
              rintro e w2 ⟨rfl, hS2, _⟩
              have hc2 := hS2.cell
              have S2 := Lib.hid hS2
              clear hS2 H2
              go_wp2_with fail
              refine (HNM _).mono ?_
              rintro e w3 ⟨rfl, hb3⟩
              have hS3 := S2.out.more hb3
              have hc3 := hS3.cell
              have hf3 := hS3.free
              have S3 := Lib.hid (hS3.set r)
              clear hS3 HNM
              go_wp2_with fail
              refine (HAT _ S3.out).mono ?_
              rintro e w4 ⟨rfl, hS4⟩
              have S4 := Lib.hid hS4
              clear hS4 HAT
              go_wp2_with fail
              refine (HWH _ S4.out).mono ?_
              rintro e w5 ⟨rfl, hS5⟩
              have S5 := Lib.hid hS5
              clear hS5 HWH
              go_wp2_with fail
              refine (HSL _ S5.out).mono ?_
              rintro e w6 ⟨rfl, hS6, _⟩
              have S6 := Lib.hid hS6
              clear hS6 HSL
              go_wp2_with fail
              refine (HGT _ S6.out).mono ?_
              rintro e w7 ⟨rfl, hS7, _⟩
              have hc7 := hS7.cell
              have hb7 := hS7.bl
              clear hS7 HGT
              go_wp2
              go_ret
              exact ⟨ret_int (by rw [R.out]; try omega), hb7⟩
            | false =>
              rw [if_neg (show ¬ (z.data.toList.headD 0 == 62) = true by rw [h62]; decide)] at RU
              have HGT := fun W hS => sign_no w W w.heap.size z 62 62 rfl hS h62
              have R := Lib.hid (show tagL s.data.toList = 0 by unfold tagL; rw [RU])
              clear RU h62
              go_enter Tryz.func111, Tryz.ntmps111
              go_wp2_with fail
              refine HN.mono ?_
              rintro e w1 ⟨rfl, hS1, _⟩
              have H2 := sign_no w w1 _ t1 47 47 rfl hS1 H47.out
              clear hS1 HN
              go_wp2_with fail
              refine H2.mono ?_
              rintro e w2 ⟨rfl, hS2, _⟩
              have hc2 := hS2.cell
              have S2 := Lib.hid hS2
              clear hS2 H2
              go_wp2_with fail
              refine (HNM _).mono ?_
              rintro e w3 ⟨rfl, hb3⟩
              have hS3 := S2.out.more hb3
              have hc3 := hS3.cell
              have hf3 := hS3.free
              have S3 := Lib.hid (hS3.set r)
              clear hS3 HNM
              go_wp2_with fail
              refine (HAT _ S3.out).mono ?_
              rintro e w4 ⟨rfl, hS4⟩
              have S4 := Lib.hid hS4
              clear hS4 HAT
              go_wp2_with fail
              refine (HWH _ S4.out).mono ?_
              rintro e w5 ⟨rfl, hS5⟩
              have S5 := Lib.hid hS5
              clear hS5 HWH
              go_wp2_with fail
              refine (HSL _ S5.out).mono ?_
              rintro e w6 ⟨rfl, hS6, _⟩
              have S6 := Lib.hid hS6
              clear hS6 HSL
              go_wp2_with fail
              refine (HGT _ S6.out).mono ?_
              rintro e w7 ⟨rfl, hS7, _⟩
              have hc7 := hS7.cell
              have hb7 := hS7.bl
              clear hS7 HGT
              go_wp2
              go_ret
              exact ⟨ret_int (by rw [R.out]; rfl), hb7⟩
          | false =>
            have HSL := fun W hS => sign_no w W w.heap.size x 47 47 rfl hS hsl
            obtain ⟨z, hz⟩ : ∃ z, x = z := ⟨_, rfl⟩
            subst hz
            rw [if_neg (show ¬ (x.data.toList.headD 0 == 47) = true by rw [hsl]; decide)] at RU
            clear hsl
            cases h62 : (x.data.toList.headD 0 == 62) with
            | true =>
              rw [if_pos h62] at RU
              have HGT := fun W hS => sign_yes w W w.heap.size x 62 (by decide) 62 rfl hS h62
              obtain ⟨y, hy⟩ : ∃ y, tailB x = y := ⟨_, rfl⟩
              have hyz : y.size ≤ x.size := by rw [← hy]; exact tailB_le _
              have R := Lib.hid (show (tagL s.data.toList : Int) = (s.size : Int) - (y.size : Int) by
                unfold tagL; rw [RU, show x.data.toList.tail = y.data.toList by rw [← hy]; rfl]
                simp only [size_len]; omega)
              rw [hy] at HGT
              clear hy RU h62
              go_enter Tryz.func111, Tryz.ntmps111
              go_wp2_with fail
              refine HN.mono ?_
              rintro e w1 ⟨rfl, hS1, _⟩
              have H2 := sign_no w w1 _ t1 47 47 rfl hS1 H47.out
              clear hS1 HN
              go_wp2_with fail
              refine H2.mono ?_
              rintro e w2 ⟨rfl, hS2, _⟩
              have hc2 := hS2.cell
              have S2 := Lib.hid hS2
              clear hS2 H2
              go_wp2_with fail
              refine (HNM _).mono ?_
              rintro e w3 ⟨rfl, hb3⟩
              have hS3 := S2.out.more hb3
              have hc3 := hS3.cell
              have hf3 := hS3.free
              have S3 := Lib.hid (hS3.set r)
              clear hS3 HNM
              go_wp2_with fail
              refine (HAT _ S3.out).mono ?_
              rintro e w4 ⟨rfl, hS4⟩
              have S4 := Lib.hid hS4
              clear hS4 HAT
              go_wp2_with fail
              refine (HWH _ S4.out).mono ?_
              rintro e w5 ⟨rfl, hS5⟩
              have S5 := Lib.hid hS5
              clear hS5 HWH
              go_wp2_with fail
              refine (HSL _ S5.out).mono ?_
              rintro e w6 ⟨rfl, hS6, _⟩
              have S6 := Lib.hid hS6
              clear hS6 HSL
              go_wp2_with fail
              refine (HGT _ S6.out).mono ?_
              rintro e w7 ⟨rfl, hS7, _⟩
              have hc7 := hS7.cell
              have hb7 := hS7.bl
              clear hS7 HGT
              go_wp2
              go_ret
              exact ⟨ret_int (by rw [R.out]; try omega), hb7⟩
            | false =>
              rw [if_neg (show ¬ (x.data.toList.headD 0 == 62) = true by rw [h62]; decide)] at RU
              have HGT := fun W hS => sign_no w W w.heap.size x 62 62 rfl hS h62
              have R := Lib.hid (show tagL s.data.toList = 0 by unfold tagL; rw [RU])
              clear RU h62
              go_enter Tryz.func111, Tryz.ntmps111
              go_wp2_with fail
              refine HN.mono ?_
              rintro e w1 ⟨rfl, hS1, _⟩
              have H2 := sign_no w w1 _ t1 47 47 rfl hS1 H47.out
              clear hS1 HN
              go_wp2_with fail
              refine H2.mono ?_
              rintro e w2 ⟨rfl, hS2, _⟩
              have hc2 := hS2.cell
              have S2 := Lib.hid hS2
              clear hS2 H2
              go_wp2_with fail
              refine (HNM _).mono ?_
              rintro e w3 ⟨rfl, hb3⟩
              have hS3 := S2.out.more hb3
              have hc3 := hS3.cell
              have hf3 := hS3.free
              have S3 := Lib.hid (hS3.set r)
              clear hS3 HNM
              go_wp2_with fail
              refine (HAT _ S3.out).mono ?_
              rintro e w4 ⟨rfl, hS4⟩
              have S4 := Lib.hid hS4
              clear hS4 HAT
              go_wp2_with fail
              refine (HWH _ S4.out).mono ?_
              rintro e w5 ⟨rfl, hS5⟩
              have S5 := Lib.hid hS5
              clear hS5 HWH
              go_wp2_with fail
              refine (HSL _ S5.out).mono ?_
              rintro e w6 ⟨rfl, hS6, _⟩
              have S6 := Lib.hid hS6
              clear hS6 HSL
              go_wp2_with fail
              refine (HGT _ S6.out).mono ?_
              rintro e w7 ⟨rfl, hS7, _⟩
              have hc7 := hS7.cell
              have hb7 := hS7.bl
              clear hS7 HGT
              go_wp2
              go_ret
              exact ⟨ret_int (by rw [R.out]; rfl), hb7⟩

end Go.Proofs.YtjocbifjmchbcaaGreatDoor
/- The contracts of span.between and span.Raw. -/
namespace Go.Proofs.YtjocbifjmchbcaaGreatDoor
open Go.RowKit

def betweenL (b e l : List UInt8) : Nat :=
  if 0 ≤ Lib.index (l.drop b.length) e then b.length + (Lib.index (l.drop b.length) e).toNat + e.length else 0

theorem index_le_len (l e : List UInt8) : Lib.index l e ≤ l.length := Lib.index_le l e

set_option maxHeartbeats 400000 in
theorem between_any (s b e : ByteArray) (w : World) (hm : MaxAt w) (hs : s.size ≤ 1000000) (hb : b.size ≤ s.size) (he : e.size ≤ 1000) :
    Calls Tryz.prog 113 #[.string s, .string b, .string e] w fun en w' => en = .returned (.int .i64 (betweenL b.data.toList e.data.toList s.data.toList)) ∧ Bl w w' := by
  obtain ⟨m, hmc⟩ := hm.out
  obtain ⟨T, hT⟩ : ∃ T, s.extract b.size s.size = T := ⟨_, rfl⟩
  have hTd : T.data.toList = s.data.toList.drop b.size := by rw [← hT]; exact Lib.extract_to_end s _
  have hTs : T.size = s.size - b.size := by rw [← size_len, hTd, List.length_drop, size_len]
  obtain ⟨k, hk⟩ : ∃ k, Lib.index T.data.toList e.data.toList = k := ⟨_, rfl⟩
  have hk1 := Lib.index_ge T.data.toList e.data.toList
  have hk2 := Lib.index_le T.data.toList e.data.toList
  have HI : ∀ W, W.cell? ⟨2, 0, none⟩ = some (.int .i64 m) → Calls Tryz.prog 176 #[.string T, .string e] W fun en w' => en = .returned (.int .i64 k) ∧ W = w' := by
    intro W hW
    refine (Tryz.strings_Index T e m W (by omega) hW).mono ?_
    rintro en w' ⟨rfl, rfl⟩
    exact ⟨by rw [hk], rfl⟩
  have R := Lib.hid (show betweenL b.data.toList e.data.toList s.data.toList = if 0 ≤ k then b.size + k.toNat + e.size else 0 by
    unfold betweenL; rw [size_len, ← hTd, hk, size_len])
  rw [size_len] at hk2
  rw [hk] at hk1 hk2
  clear hTd hk
  have Z := Lib.hid hTs
  have hTz : T.size ≤ 1000000 := by omega
  clear hTs
  by_cases h0 : 0 ≤ k
  · have hd : decide (k < 0) = false := decide_eq_false (by omega)
    go_enter Tryz.func113, Tryz.ntmps113
    go_wp2_with (first | (go_at_call 176; (with_reducible refine (HI _ hmc).mono ?_); rintro en w' ⟨rfl, rfl⟩))
    go_ret
    exact ⟨ret_int (by rw [R.out, if_pos h0]; omega), Bl.refl _⟩
  · have hd : decide (k < 0) = true := decide_eq_true (by omega)
    go_enter Tryz.func113, Tryz.ntmps113
    go_wp2_with (first | (go_at_call 176; (with_reducible refine (HI _ hmc).mono ?_); rintro en w' ⟨rfl, rfl⟩))
    go_ret
    exact ⟨ret_int (by rw [R.out, if_neg (by omega)]; rfl), Bl.refl _⟩

def isComment5 (l : List UInt8) : Bool := Lib.hasPrefix l [60, 33, 45, 45, 62]
def isComment6 (l : List UInt8) : Bool := Lib.hasPrefix l [60, 33, 45, 45, 45, 62]
def isDecl (l : List UInt8) : Bool := decide (2 < l.length) && Lib.hasPrefix l [60, 33] && letterI (((l.drop 2).headD 0).toNat : Int)
/-- How long the HTML is with which a text begins. -/
def rawL (l : List UInt8) : Nat :=
  if 0 < tagL l then tagL l
  else if isComment5 l then 5
  else if isComment6 l then 6
  else if isDecl l then betweenL [60, 33, 120] [62] l
  else if Lib.hasPrefix l [60, 33, 45, 45] then betweenL [60, 33, 45, 45] [45, 45, 62] l
  else if Lib.hasPrefix l [60, 63] then betweenL [60, 63] [63, 62] l
  else if Lib.hasPrefix l [60, 33, 91, 67, 68, 65, 84, 65, 91] then betweenL [60, 33, 91, 67, 68, 65, 84, 65, 91] [93, 93, 62] l
  else 0

theorem tagL_le (l : List UInt8) : tagL l ≤ l.length := by
  unfold tagL; split <;> omega

theorem prefix_size (s p : ByteArray) (h : Lib.hasPrefix s.data.toList p.data.toList = true) : p.size ≤ s.size := by
  rw [← size_len s, ← size_len p]
  exact (List.isPrefixOf_iff_prefix.mp h).length_le
structure NoC (s : ByteArray) (k : Nat) : Prop where
  a : 1 ≤ k → isComment5 s.data.toList = false
  b : 2 ≤ k → isComment6 s.data.toList = false

structure NoD (s : ByteArray) (k : Nat) : Prop where
  a : 1 ≤ k → Lib.hasPrefix s.data.toList [60, 33, 45, 45] = false
  b : 2 ≤ k → Lib.hasPrefix s.data.toList [60, 63] = false
  c : 3 ≤ k → Lib.hasPrefix s.data.toList [60, 33, 91, 67, 68, 65, 84, 65, 91] = false

set_option maxRecDepth 100000 in
set_option maxHeartbeats 2000000 in
theorem raw_any (s : ByteArray) (w : World) (hm : MaxAt w) (hs : s.size ≤ 1000000) :
    Calls Tryz.prog 71 #[.string s] w fun e w' => e = .returned (.int .i64 (rawL s.data.toList)) ∧ Bl w w' := by
  have HT := tag_any s w hs
  obtain ⟨n, hn⟩ : ∃ n, tagL s.data.toList = n := ⟨_, rfl⟩
  have hnl : n ≤ s.size := by rw [← hn, ← size_len]; exact tagL_le _
  have R : rawL s.data.toList = rawL s.data.toList := rfl
  conv at R => rhs; unfold rawL; rw [hn]
  rw [hn] at HT
  clear hn
  by_cases h0 : 0 < n
  · rw [if_pos h0] at R
    have RR := Lib.hid R
    have hd : decide ((0 : Int) < (n : Int)) = true := decide_eq_true (by omega)
    clear R
    go_enter Tryz.func71, Tryz.ntmps71
    go_wp2_with (first | (go_at_call 111; (with_reducible refine HT.mono ?_); rintro en w1 ⟨rfl, hb1⟩))
    go_ret
    exact ⟨ret_int (by rw [RR.out]), hb1⟩
  · rw [if_neg h0] at R
    have hd : decide ((0 : Int) < (n : Int)) = false := decide_eq_false (by omega)
    have RR := Lib.hid R
    clear R
    go_enter Tryz.func71, Tryz.ntmps71
    go_wp2_with (first | (go_at_call 111; (with_reducible refine HT.mono ?_); rintro en w1 ⟨rfl, hb1⟩))
    have hrow0 : (w1.alloc (.cells #[.string ⟨#[60, 33, 45, 45, 62]⟩, .string ⟨#[60, 33, 45, 45, 45, 62]⟩] 9)).heap[w1.heap.size]? = some (.cells #[.string ⟨#[60, 33, 45, 45, 62]⟩, .string ⟨#[60, 33, 45, 45, 45, 62]⟩] 9) := alloc_new _ _
    go_loopw [15] (fun i wr => ∃ k : Nat, k ≤ 2 ∧ i = .int .i64 k ∧ Bl w wr ∧ wr.heap[w1.heap.size]? = some (.cells #[.string ⟨#[60, 33, 45, 45, 62]⟩, .string ⟨#[60, 33, 45, 45, 45, 62]⟩] 9) ∧ NoC s k) (fun i _ => 2 - (intOf i).toNat)
    case atStart => exact ⟨0, by omega, rfl, hb1.alloc _, hrow0, ⟨by omega, by omega⟩⟩
    case round =>
      clear hrow0
      obtain ⟨k, hk, rfl, hb, hrow, hno⟩ := hrel
      have c0 : wr.cell? ⟨w1.heap.size, 0, none⟩ = some (.string ⟨#[60, 33, 45, 45, 62]⟩) := cell_marked hrow
      have c1 : wr.cell? ⟨w1.heap.size, 1, none⟩ = some (.string ⟨#[60, 33, 45, 45, 45, 62]⟩) := cell_marked hrow
      by_cases k0 : k = 0
      · subst k0
        cases h5 : isComment5 s.data.toList with
        | true =>
          have HP := fun W => hasPrefix_is s ⟨#[60, 33, 45, 45, 62]⟩ true h5 W
          have R5 := Lib.hid (RR.out.trans (if_pos h5))
          clear h5 hno
          go_wp2_with (first | (go_at_call 34; (with_reducible refine (HP _).mono ?_); rintro e w' ⟨rfl, rfl⟩))
          go_ret
          exact ⟨ret_int (by rw [R5.out]; rfl), hb⟩
        | false =>
          have HP := fun W => hasPrefix_is s ⟨#[60, 33, 45, 45, 62]⟩ false h5 W
          have H5 := Lib.hid h5
          clear h5
          go_wp2_with (first | (go_at_call 34; (with_reducible refine (HP _).mono ?_); rintro e w' ⟨rfl, rfl⟩))
          go_roundw
          case rel => exact ⟨1, by omega, rfl, hb, hrow, ⟨fun _ => H5.out, by omega⟩⟩
          case measure => simp [intOf]
      · by_cases k1 : k = 1
        · subst k1
          have RR5 := RR.out.trans (if_neg (by rw [hno.a (by omega)]; decide))
          cases h6 : isComment6 s.data.toList with
          | true =>
            have HP := fun W => hasPrefix_is s ⟨#[60, 33, 45, 45, 45, 62]⟩ true h6 W
            have R5 := Lib.hid (RR5.trans (if_pos h6))
            clear h6 hno RR5
            go_wp2_with (first | (go_at_call 34; (with_reducible refine (HP _).mono ?_); rintro e w' ⟨rfl, rfl⟩))
            go_ret
            exact ⟨ret_int (by rw [R5.out]; rfl), hb⟩
          | false =>
            have HP := fun W => hasPrefix_is s ⟨#[60, 33, 45, 45, 45, 62]⟩ false h6 W
            have H6 := Lib.hid h6
            have H5 := Lib.hid (hno.a (by omega))
            clear h6 RR5
            go_wp2_with (first | (go_at_call 34; (with_reducible refine (HP _).mono ?_); rintro e w' ⟨rfl, rfl⟩))
            go_roundw
            case rel => exact ⟨2, by omega, rfl, hb, hrow, ⟨fun _ => H5.out, fun _ => H6.out⟩⟩
            case measure => simp [intOf]
        · obtain rfl : k = 2 := by omega
          have RS := (RR.out.trans (if_neg (by rw [hno.a (by omega)]; decide))).trans (if_neg (by rw [hno.b (by omega)]; decide))
          clear hno c0 c1 hrow RR
          by_cases h2 : 2 < s.size
          · have d2 : decide ((2 : Int) < (s.size : Int)) = true := decide_eq_true (by omega)
            have b0 : (0 : Int) ≤ (s[2].toNat : Int) := by omega
            have b1 : (s[2].toNat : Int) < 256 := by have := s[2].toNat_lt; omega
            have hd2 : (s.data.toList.drop 2).headD 0 = s[2] := by
              rw [List.headD_eq_head?_getD, List.head?_drop, at_some s 2 h2]; rfl
            have hdec : isDecl s.data.toList = (Lib.hasPrefix s.data.toList [60, 33] && letterI (s[2].toNat : Int)) := by
              unfold isDecl; rw [size_len, decide_eq_true h2, hd2]; rfl
            cases hpd : Lib.hasPrefix s.data.toList [60, 33] with
            | true =>
              have HPD := fun W => hasPrefix_is s ⟨#[60, 33]⟩ true hpd W
              cases hlt : letterI (s[2].toNat : Int) with
              | true =>
                have R5 := Lib.hid (RS.trans (if_pos (by rw [hdec, hpd, hlt]; rfl)))
                have HB := fun W hW => between_any s ⟨#[60, 33, 120]⟩ ⟨#[62]⟩ W hW hs (by show (3 : Nat) ≤ s.size; omega) (by decide)
                rw [show betweenL (⟨#[60, 33, 120]⟩ : ByteArray).data.toList (⟨#[62]⟩ : ByteArray).data.toList s.data.toList = rawL s.data.toList from R5.out.symm] at HB
                clear hdec hpd RS hd2
                go_wp2_with (first | (go_at_call 34; (with_reducible refine (HPD _).mono ?_); rintro e w' ⟨rfl, rfl⟩) | (go_at_call 112; (with_reducible refine (letter_any _ b0 b1 _).mono ?_); rintro e w' ⟨rfl, rfl⟩) | (go_at_call 113; (refine (HB _ (hm.bl hb)).mono ?_); rintro e w' ⟨rfl, hb9⟩))
                go_ret
                exact ⟨rfl, hb.trans hb9⟩
              | false =>
                have RF := Lib.hid (RS.trans (if_neg (by rw [hdec, hpd, hlt]; decide)))
                clear RS hdec hpd hd2
                go_wp2_with (first | (go_at_call 34; (with_reducible refine (HPD _).mono ?_); rintro e w' ⟨rfl, rfl⟩) | (go_at_call 112; (with_reducible refine (letter_any _ b0 b1 _).mono ?_); rintro e w' ⟨rfl, rfl⟩))
                clear hlt b0 b1 HPD
                have hrow0 : (wr.alloc (.cells #[.string ⟨#[60, 33, 45, 45]⟩, .string ⟨#[45, 45, 62]⟩, .string ⟨#[60, 63]⟩, .string ⟨#[63, 62]⟩, .string ⟨#[60, 33, 91, 67, 68, 65, 84, 65, 91]⟩, .string ⟨#[93, 93, 62]⟩] 151)).heap[wr.heap.size]? = some (.cells #[.string ⟨#[60, 33, 45, 45]⟩, .string ⟨#[45, 45, 62]⟩, .string ⟨#[60, 63]⟩, .string ⟨#[63, 62]⟩, .string ⟨#[60, 33, 91, 67, 68, 65, 84, 65, 91]⟩, .string ⟨#[93, 93, 62]⟩] 151) := alloc_new _ _
                have hbr := hb.alloc (.cells #[.string ⟨#[60, 33, 45, 45]⟩, .string ⟨#[45, 45, 62]⟩, .string ⟨#[60, 63]⟩, .string ⟨#[63, 62]⟩, .string ⟨#[60, 33, 91, 67, 68, 65, 84, 65, 91]⟩, .string ⟨#[93, 93, 62]⟩] 151)
                obtain ⟨wo, rfl⟩ : ∃ wo : World, wo = wr := ⟨_, rfl⟩
                go_loopw [44] (fun i wr => ∃ k : Nat, k ≤ 3 ∧ i = .int .i64 k ∧ Bl w wr ∧ wr.heap[wo.heap.size]? = some (.cells #[.string ⟨#[60, 33, 45, 45]⟩, .string ⟨#[45, 45, 62]⟩, .string ⟨#[60, 63]⟩, .string ⟨#[63, 62]⟩, .string ⟨#[60, 33, 91, 67, 68, 65, 84, 65, 91]⟩, .string ⟨#[93, 93, 62]⟩] 151) ∧ NoD s k) (fun i _ => 3 - (intOf i).toNat)
                case atStart => exact ⟨0, by omega, rfl, hbr, hrow0, ⟨by omega, by omega, by omega⟩⟩
                case round =>
                  clear hrow0 hbr
                  obtain ⟨k, hk, rfl, hbx, hrow, hno⟩ := hrel
                  have c0 : wr.cell? ⟨wo.heap.size, 0, none⟩ = some (.string ⟨#[60, 33, 45, 45]⟩) := cell_marked hrow
                  have c1 : wr.cell? ⟨wo.heap.size, 1, none⟩ = some (.string ⟨#[45, 45, 62]⟩) := cell_marked hrow
                  have c2 : wr.cell? ⟨wo.heap.size, 2, none⟩ = some (.string ⟨#[60, 63]⟩) := cell_marked hrow
                  have c3 : wr.cell? ⟨wo.heap.size, 3, none⟩ = some (.string ⟨#[63, 62]⟩) := cell_marked hrow
                  have c4 : wr.cell? ⟨wo.heap.size, 4, none⟩ = some (.string ⟨#[60, 33, 91, 67, 68, 65, 84, 65, 91]⟩) := cell_marked hrow
                  have c5 : wr.cell? ⟨wo.heap.size, 5, none⟩ = some (.string ⟨#[93, 93, 62]⟩) := cell_marked hrow
                  rcases (show k = 0 ∨ k = 1 ∨ k = 2 ∨ k = 3 by omega) with rfl | rfl | rfl | rfl
                  · have RK := RF.out
                    cases hpx : Lib.hasPrefix s.data.toList [60, 33, 45, 45] with
                    | true =>
                      have HP := fun W => hasPrefix_is s ⟨#[60, 33, 45, 45]⟩ true hpx W
                      have hsz : (⟨#[60, 33, 45, 45]⟩ : ByteArray).size ≤ s.size := prefix_size s _ hpx
                      have R5 := Lib.hid (RK.trans (if_pos hpx))
                      have HB := fun W hW => between_any s ⟨#[60, 33, 45, 45]⟩ ⟨#[45, 45, 62]⟩ W hW hs hsz (by decide)
                      rw [show betweenL (⟨#[60, 33, 45, 45]⟩ : ByteArray).data.toList (⟨#[45, 45, 62]⟩ : ByteArray).data.toList s.data.toList = rawL s.data.toList from R5.out.symm] at HB
                      clear hpx hno RK hsz
                      go_wp2_with (first | (go_at_call 34; (with_reducible refine (HP _).mono ?_); rintro e w' ⟨rfl, rfl⟩) | (go_at_call 113; (refine (HB _ (hm.bl (hbx.alloc _))).mono ?_); rintro e w' ⟨rfl, hb9⟩))
                      go_ret
                      exact ⟨rfl, (hbx.alloc _).trans hb9⟩
                    | false =>
                      have HP := fun W => hasPrefix_is s ⟨#[60, 33, 45, 45]⟩ false hpx W
                      have Q0 := Lib.hid hpx
                      clear hpx RK
                      go_wp2_with (first | (go_at_call 34; (with_reducible refine (HP _).mono ?_); rintro e w' ⟨rfl, rfl⟩))
                      go_roundw
                      case rel => exact ⟨1, by omega, rfl, hbx.alloc _, by rw [((Bl.refl wr).alloc _).block (Array.getElem?_eq_some_iff.1 hrow).1]; exact hrow, ⟨fun _ => Q0.out, by omega, by omega⟩⟩
                      case measure => simp [intOf]
                  · have RK := (RF.out).trans (if_neg (by rw [hno.a (by omega)]; decide))
                    cases hpx : Lib.hasPrefix s.data.toList [60, 63] with
                    | true =>
                      have HP := fun W => hasPrefix_is s ⟨#[60, 63]⟩ true hpx W
                      have hsz : (⟨#[60, 63]⟩ : ByteArray).size ≤ s.size := prefix_size s _ hpx
                      have R5 := Lib.hid (RK.trans (if_pos hpx))
                      have HB := fun W hW => between_any s ⟨#[60, 63]⟩ ⟨#[63, 62]⟩ W hW hs hsz (by decide)
                      rw [show betweenL (⟨#[60, 63]⟩ : ByteArray).data.toList (⟨#[63, 62]⟩ : ByteArray).data.toList s.data.toList = rawL s.data.toList from R5.out.symm] at HB
                      clear hpx hno RK hsz
                      go_wp2_with (first | (go_at_call 34; (with_reducible refine (HP _).mono ?_); rintro e w' ⟨rfl, rfl⟩) | (go_at_call 113; (refine (HB _ (hm.bl (hbx.alloc _))).mono ?_); rintro e w' ⟨rfl, hb9⟩))
                      go_ret
                      exact ⟨rfl, (hbx.alloc _).trans hb9⟩
                    | false =>
                      have HP := fun W => hasPrefix_is s ⟨#[60, 63]⟩ false hpx W
                      have Q0 := Lib.hid (hno.a (by omega))
                      have Q1 := Lib.hid hpx
                      clear hpx RK
                      go_wp2_with (first | (go_at_call 34; (with_reducible refine (HP _).mono ?_); rintro e w' ⟨rfl, rfl⟩))
                      go_roundw
                      case rel => exact ⟨2, by omega, rfl, hbx.alloc _, by rw [((Bl.refl wr).alloc _).block (Array.getElem?_eq_some_iff.1 hrow).1]; exact hrow, ⟨fun _ => Q0.out, fun _ => Q1.out, by omega⟩⟩
                      case measure => simp [intOf]
                  · have RK := ((RF.out).trans (if_neg (by rw [hno.a (by omega)]; decide))).trans (if_neg (by rw [hno.b (by omega)]; decide))
                    cases hpx : Lib.hasPrefix s.data.toList [60, 33, 91, 67, 68, 65, 84, 65, 91] with
                    | true =>
                      have HP := fun W => hasPrefix_is s ⟨#[60, 33, 91, 67, 68, 65, 84, 65, 91]⟩ true hpx W
                      have hsz : (⟨#[60, 33, 91, 67, 68, 65, 84, 65, 91]⟩ : ByteArray).size ≤ s.size := prefix_size s _ hpx
                      have R5 := Lib.hid (RK.trans (if_pos hpx))
                      have HB := fun W hW => between_any s ⟨#[60, 33, 91, 67, 68, 65, 84, 65, 91]⟩ ⟨#[93, 93, 62]⟩ W hW hs hsz (by decide)
                      rw [show betweenL (⟨#[60, 33, 91, 67, 68, 65, 84, 65, 91]⟩ : ByteArray).data.toList (⟨#[93, 93, 62]⟩ : ByteArray).data.toList s.data.toList = rawL s.data.toList from R5.out.symm] at HB
                      clear hpx hno RK hsz
                      go_wp2_with (first | (go_at_call 34; (with_reducible refine (HP _).mono ?_); rintro e w' ⟨rfl, rfl⟩) | (go_at_call 113; (refine (HB _ (hm.bl (hbx.alloc _))).mono ?_); rintro e w' ⟨rfl, hb9⟩))
                      go_ret
                      exact ⟨rfl, (hbx.alloc _).trans hb9⟩
                    | false =>
                      have HP := fun W => hasPrefix_is s ⟨#[60, 33, 91, 67, 68, 65, 84, 65, 91]⟩ false hpx W
                      have Q0 := Lib.hid (hno.a (by omega))
                      have Q1 := Lib.hid (hno.b (by omega))
                      have Q2 := Lib.hid hpx
                      clear hpx RK
                      go_wp2_with (first | (go_at_call 34; (with_reducible refine (HP _).mono ?_); rintro e w' ⟨rfl, rfl⟩))
                      go_roundw
                      case rel => exact ⟨3, by omega, rfl, hbx.alloc _, by rw [((Bl.refl wr).alloc _).block (Array.getElem?_eq_some_iff.1 hrow).1]; exact hrow, ⟨fun _ => Q0.out, fun _ => Q1.out, fun _ => Q2.out⟩⟩
                      case measure => simp [intOf]
                  · have R9 := Lib.hid ((((RF.out).trans (if_neg (by rw [hno.a (by omega)]; decide))).trans (if_neg (by rw [hno.b (by omega)]; decide))).trans (if_neg (by rw [hno.c (by omega)]; decide)))
                    go_wp2
                    go_ret
                    exact ⟨ret_int (by rw [R9.out]; rfl), hbx⟩
            | false =>
              have HPD := fun W => hasPrefix_is s ⟨#[60, 33]⟩ false hpd W
              have RF := Lib.hid (RS.trans (if_neg (by rw [hdec, hpd]; exact Bool.false_ne_true)))
              clear RS hdec hpd hd2
              go_wp2_with (first | (go_at_call 34; (with_reducible refine (HPD _).mono ?_); rintro e w' ⟨rfl, rfl⟩))
              clear b0 b1 HPD
              have hrow0 : (wr.alloc (.cells #[.string ⟨#[60, 33, 45, 45]⟩, .string ⟨#[45, 45, 62]⟩, .string ⟨#[60, 63]⟩, .string ⟨#[63, 62]⟩, .string ⟨#[60, 33, 91, 67, 68, 65, 84, 65, 91]⟩, .string ⟨#[93, 93, 62]⟩] 151)).heap[wr.heap.size]? = some (.cells #[.string ⟨#[60, 33, 45, 45]⟩, .string ⟨#[45, 45, 62]⟩, .string ⟨#[60, 63]⟩, .string ⟨#[63, 62]⟩, .string ⟨#[60, 33, 91, 67, 68, 65, 84, 65, 91]⟩, .string ⟨#[93, 93, 62]⟩] 151) := alloc_new _ _
              have hbr := hb.alloc (.cells #[.string ⟨#[60, 33, 45, 45]⟩, .string ⟨#[45, 45, 62]⟩, .string ⟨#[60, 63]⟩, .string ⟨#[63, 62]⟩, .string ⟨#[60, 33, 91, 67, 68, 65, 84, 65, 91]⟩, .string ⟨#[93, 93, 62]⟩] 151)
              obtain ⟨wo, rfl⟩ : ∃ wo : World, wo = wr := ⟨_, rfl⟩
              go_loopw [44] (fun i wr => ∃ k : Nat, k ≤ 3 ∧ i = .int .i64 k ∧ Bl w wr ∧ wr.heap[wo.heap.size]? = some (.cells #[.string ⟨#[60, 33, 45, 45]⟩, .string ⟨#[45, 45, 62]⟩, .string ⟨#[60, 63]⟩, .string ⟨#[63, 62]⟩, .string ⟨#[60, 33, 91, 67, 68, 65, 84, 65, 91]⟩, .string ⟨#[93, 93, 62]⟩] 151) ∧ NoD s k) (fun i _ => 3 - (intOf i).toNat)
              case atStart => exact ⟨0, by omega, rfl, hbr, hrow0, ⟨by omega, by omega, by omega⟩⟩
              case round =>
                clear hrow0 hbr
                obtain ⟨k, hk, rfl, hbx, hrow, hno⟩ := hrel
                have c0 : wr.cell? ⟨wo.heap.size, 0, none⟩ = some (.string ⟨#[60, 33, 45, 45]⟩) := cell_marked hrow
                have c1 : wr.cell? ⟨wo.heap.size, 1, none⟩ = some (.string ⟨#[45, 45, 62]⟩) := cell_marked hrow
                have c2 : wr.cell? ⟨wo.heap.size, 2, none⟩ = some (.string ⟨#[60, 63]⟩) := cell_marked hrow
                have c3 : wr.cell? ⟨wo.heap.size, 3, none⟩ = some (.string ⟨#[63, 62]⟩) := cell_marked hrow
                have c4 : wr.cell? ⟨wo.heap.size, 4, none⟩ = some (.string ⟨#[60, 33, 91, 67, 68, 65, 84, 65, 91]⟩) := cell_marked hrow
                have c5 : wr.cell? ⟨wo.heap.size, 5, none⟩ = some (.string ⟨#[93, 93, 62]⟩) := cell_marked hrow
                rcases (show k = 0 ∨ k = 1 ∨ k = 2 ∨ k = 3 by omega) with rfl | rfl | rfl | rfl
                · have RK := RF.out
                  cases hpx : Lib.hasPrefix s.data.toList [60, 33, 45, 45] with
                  | true =>
                    have HP := fun W => hasPrefix_is s ⟨#[60, 33, 45, 45]⟩ true hpx W
                    have hsz : (⟨#[60, 33, 45, 45]⟩ : ByteArray).size ≤ s.size := prefix_size s _ hpx
                    have R5 := Lib.hid (RK.trans (if_pos hpx))
                    have HB := fun W hW => between_any s ⟨#[60, 33, 45, 45]⟩ ⟨#[45, 45, 62]⟩ W hW hs hsz (by decide)
                    rw [show betweenL (⟨#[60, 33, 45, 45]⟩ : ByteArray).data.toList (⟨#[45, 45, 62]⟩ : ByteArray).data.toList s.data.toList = rawL s.data.toList from R5.out.symm] at HB
                    clear hpx hno RK hsz
                    go_wp2_with (first | (go_at_call 34; (with_reducible refine (HP _).mono ?_); rintro e w' ⟨rfl, rfl⟩) | (go_at_call 113; (refine (HB _ (hm.bl (hbx.alloc _))).mono ?_); rintro e w' ⟨rfl, hb9⟩))
                    go_ret
                    exact ⟨rfl, (hbx.alloc _).trans hb9⟩
                  | false =>
                    have HP := fun W => hasPrefix_is s ⟨#[60, 33, 45, 45]⟩ false hpx W
                    have Q0 := Lib.hid hpx
                    clear hpx RK
                    go_wp2_with (first | (go_at_call 34; (with_reducible refine (HP _).mono ?_); rintro e w' ⟨rfl, rfl⟩))
                    go_roundw
                    case rel => exact ⟨1, by omega, rfl, hbx.alloc _, by rw [((Bl.refl wr).alloc _).block (Array.getElem?_eq_some_iff.1 hrow).1]; exact hrow, ⟨fun _ => Q0.out, by omega, by omega⟩⟩
                    case measure => simp [intOf]
                · have RK := (RF.out).trans (if_neg (by rw [hno.a (by omega)]; decide))
                  cases hpx : Lib.hasPrefix s.data.toList [60, 63] with
                  | true =>
                    have HP := fun W => hasPrefix_is s ⟨#[60, 63]⟩ true hpx W
                    have hsz : (⟨#[60, 63]⟩ : ByteArray).size ≤ s.size := prefix_size s _ hpx
                    have R5 := Lib.hid (RK.trans (if_pos hpx))
                    have HB := fun W hW => between_any s ⟨#[60, 63]⟩ ⟨#[63, 62]⟩ W hW hs hsz (by decide)
                    rw [show betweenL (⟨#[60, 63]⟩ : ByteArray).data.toList (⟨#[63, 62]⟩ : ByteArray).data.toList s.data.toList = rawL s.data.toList from R5.out.symm] at HB
                    clear hpx hno RK hsz
                    go_wp2_with (first | (go_at_call 34; (with_reducible refine (HP _).mono ?_); rintro e w' ⟨rfl, rfl⟩) | (go_at_call 113; (refine (HB _ (hm.bl (hbx.alloc _))).mono ?_); rintro e w' ⟨rfl, hb9⟩))
                    go_ret
                    exact ⟨rfl, (hbx.alloc _).trans hb9⟩
                  | false =>
                    have HP := fun W => hasPrefix_is s ⟨#[60, 63]⟩ false hpx W
                    have Q0 := Lib.hid (hno.a (by omega))
                    have Q1 := Lib.hid hpx
                    clear hpx RK
                    go_wp2_with (first | (go_at_call 34; (with_reducible refine (HP _).mono ?_); rintro e w' ⟨rfl, rfl⟩))
                    go_roundw
                    case rel => exact ⟨2, by omega, rfl, hbx.alloc _, by rw [((Bl.refl wr).alloc _).block (Array.getElem?_eq_some_iff.1 hrow).1]; exact hrow, ⟨fun _ => Q0.out, fun _ => Q1.out, by omega⟩⟩
                    case measure => simp [intOf]
                · have RK := ((RF.out).trans (if_neg (by rw [hno.a (by omega)]; decide))).trans (if_neg (by rw [hno.b (by omega)]; decide))
                  cases hpx : Lib.hasPrefix s.data.toList [60, 33, 91, 67, 68, 65, 84, 65, 91] with
                  | true =>
                    have HP := fun W => hasPrefix_is s ⟨#[60, 33, 91, 67, 68, 65, 84, 65, 91]⟩ true hpx W
                    have hsz : (⟨#[60, 33, 91, 67, 68, 65, 84, 65, 91]⟩ : ByteArray).size ≤ s.size := prefix_size s _ hpx
                    have R5 := Lib.hid (RK.trans (if_pos hpx))
                    have HB := fun W hW => between_any s ⟨#[60, 33, 91, 67, 68, 65, 84, 65, 91]⟩ ⟨#[93, 93, 62]⟩ W hW hs hsz (by decide)
                    rw [show betweenL (⟨#[60, 33, 91, 67, 68, 65, 84, 65, 91]⟩ : ByteArray).data.toList (⟨#[93, 93, 62]⟩ : ByteArray).data.toList s.data.toList = rawL s.data.toList from R5.out.symm] at HB
                    clear hpx hno RK hsz
                    go_wp2_with (first | (go_at_call 34; (with_reducible refine (HP _).mono ?_); rintro e w' ⟨rfl, rfl⟩) | (go_at_call 113; (refine (HB _ (hm.bl (hbx.alloc _))).mono ?_); rintro e w' ⟨rfl, hb9⟩))
                    go_ret
                    exact ⟨rfl, (hbx.alloc _).trans hb9⟩
                  | false =>
                    have HP := fun W => hasPrefix_is s ⟨#[60, 33, 91, 67, 68, 65, 84, 65, 91]⟩ false hpx W
                    have Q0 := Lib.hid (hno.a (by omega))
                    have Q1 := Lib.hid (hno.b (by omega))
                    have Q2 := Lib.hid hpx
                    clear hpx RK
                    go_wp2_with (first | (go_at_call 34; (with_reducible refine (HP _).mono ?_); rintro e w' ⟨rfl, rfl⟩))
                    go_roundw
                    case rel => exact ⟨3, by omega, rfl, hbx.alloc _, by rw [((Bl.refl wr).alloc _).block (Array.getElem?_eq_some_iff.1 hrow).1]; exact hrow, ⟨fun _ => Q0.out, fun _ => Q1.out, fun _ => Q2.out⟩⟩
                    case measure => simp [intOf]
                · have R9 := Lib.hid ((((RF.out).trans (if_neg (by rw [hno.a (by omega)]; decide))).trans (if_neg (by rw [hno.b (by omega)]; decide))).trans (if_neg (by rw [hno.c (by omega)]; decide)))
                  go_wp2
                  go_ret
                  exact ⟨ret_int (by rw [R9.out]; rfl), hbx⟩
          · have d2 : decide ((2 : Int) < (s.size : Int)) = false := decide_eq_false (by omega)
            have RF := Lib.hid (RS.trans (if_neg (show ¬ isDecl s.data.toList = true by unfold isDecl; rw [size_len, decide_eq_false h2]; exact Bool.false_ne_true)))
            clear RS
            go_wp2
            clear h2 d2
            have hrow0 : (wr.alloc (.cells #[.string ⟨#[60, 33, 45, 45]⟩, .string ⟨#[45, 45, 62]⟩, .string ⟨#[60, 63]⟩, .string ⟨#[63, 62]⟩, .string ⟨#[60, 33, 91, 67, 68, 65, 84, 65, 91]⟩, .string ⟨#[93, 93, 62]⟩] 151)).heap[wr.heap.size]? = some (.cells #[.string ⟨#[60, 33, 45, 45]⟩, .string ⟨#[45, 45, 62]⟩, .string ⟨#[60, 63]⟩, .string ⟨#[63, 62]⟩, .string ⟨#[60, 33, 91, 67, 68, 65, 84, 65, 91]⟩, .string ⟨#[93, 93, 62]⟩] 151) := alloc_new _ _
            have hbr := hb.alloc (.cells #[.string ⟨#[60, 33, 45, 45]⟩, .string ⟨#[45, 45, 62]⟩, .string ⟨#[60, 63]⟩, .string ⟨#[63, 62]⟩, .string ⟨#[60, 33, 91, 67, 68, 65, 84, 65, 91]⟩, .string ⟨#[93, 93, 62]⟩] 151)
            obtain ⟨wo, rfl⟩ : ∃ wo : World, wo = wr := ⟨_, rfl⟩
            go_loopw [44] (fun i wr => ∃ k : Nat, k ≤ 3 ∧ i = .int .i64 k ∧ Bl w wr ∧ wr.heap[wo.heap.size]? = some (.cells #[.string ⟨#[60, 33, 45, 45]⟩, .string ⟨#[45, 45, 62]⟩, .string ⟨#[60, 63]⟩, .string ⟨#[63, 62]⟩, .string ⟨#[60, 33, 91, 67, 68, 65, 84, 65, 91]⟩, .string ⟨#[93, 93, 62]⟩] 151) ∧ NoD s k) (fun i _ => 3 - (intOf i).toNat)
            case atStart => exact ⟨0, by omega, rfl, hbr, hrow0, ⟨by omega, by omega, by omega⟩⟩
            case round =>
              clear hrow0 hbr
              obtain ⟨k, hk, rfl, hbx, hrow, hno⟩ := hrel
              have c0 : wr.cell? ⟨wo.heap.size, 0, none⟩ = some (.string ⟨#[60, 33, 45, 45]⟩) := cell_marked hrow
              have c1 : wr.cell? ⟨wo.heap.size, 1, none⟩ = some (.string ⟨#[45, 45, 62]⟩) := cell_marked hrow
              have c2 : wr.cell? ⟨wo.heap.size, 2, none⟩ = some (.string ⟨#[60, 63]⟩) := cell_marked hrow
              have c3 : wr.cell? ⟨wo.heap.size, 3, none⟩ = some (.string ⟨#[63, 62]⟩) := cell_marked hrow
              have c4 : wr.cell? ⟨wo.heap.size, 4, none⟩ = some (.string ⟨#[60, 33, 91, 67, 68, 65, 84, 65, 91]⟩) := cell_marked hrow
              have c5 : wr.cell? ⟨wo.heap.size, 5, none⟩ = some (.string ⟨#[93, 93, 62]⟩) := cell_marked hrow
              rcases (show k = 0 ∨ k = 1 ∨ k = 2 ∨ k = 3 by omega) with rfl | rfl | rfl | rfl
              · have RK := RF.out
                cases hpx : Lib.hasPrefix s.data.toList [60, 33, 45, 45] with
                | true =>
                  have HP := fun W => hasPrefix_is s ⟨#[60, 33, 45, 45]⟩ true hpx W
                  have hsz : (⟨#[60, 33, 45, 45]⟩ : ByteArray).size ≤ s.size := prefix_size s _ hpx
                  have R5 := Lib.hid (RK.trans (if_pos hpx))
                  have HB := fun W hW => between_any s ⟨#[60, 33, 45, 45]⟩ ⟨#[45, 45, 62]⟩ W hW hs hsz (by decide)
                  rw [show betweenL (⟨#[60, 33, 45, 45]⟩ : ByteArray).data.toList (⟨#[45, 45, 62]⟩ : ByteArray).data.toList s.data.toList = rawL s.data.toList from R5.out.symm] at HB
                  clear hpx hno RK hsz
                  go_wp2_with (first | (go_at_call 34; (with_reducible refine (HP _).mono ?_); rintro e w' ⟨rfl, rfl⟩) | (go_at_call 113; (refine (HB _ (hm.bl (hbx.alloc _))).mono ?_); rintro e w' ⟨rfl, hb9⟩))
                  go_ret
                  exact ⟨rfl, (hbx.alloc _).trans hb9⟩
                | false =>
                  have HP := fun W => hasPrefix_is s ⟨#[60, 33, 45, 45]⟩ false hpx W
                  have Q0 := Lib.hid hpx
                  clear hpx RK
                  go_wp2_with (first | (go_at_call 34; (with_reducible refine (HP _).mono ?_); rintro e w' ⟨rfl, rfl⟩))
                  go_roundw
                  case rel => (repeat apply Exists.intro); exact ⟨⟨1, by omega, rfl, hbx.alloc _, by rw [((Bl.refl wr).alloc _).block (Array.getElem?_eq_some_iff.1 hrow).1]; exact hrow, ⟨fun _ => Q0.out, by omega, by omega⟩⟩, rfl⟩
                  case measure => simp [intOf]
              · have RK := (RF.out).trans (if_neg (by rw [hno.a (by omega)]; decide))
                cases hpx : Lib.hasPrefix s.data.toList [60, 63] with
                | true =>
                  have HP := fun W => hasPrefix_is s ⟨#[60, 63]⟩ true hpx W
                  have hsz : (⟨#[60, 63]⟩ : ByteArray).size ≤ s.size := prefix_size s _ hpx
                  have R5 := Lib.hid (RK.trans (if_pos hpx))
                  have HB := fun W hW => between_any s ⟨#[60, 63]⟩ ⟨#[63, 62]⟩ W hW hs hsz (by decide)
                  rw [show betweenL (⟨#[60, 63]⟩ : ByteArray).data.toList (⟨#[63, 62]⟩ : ByteArray).data.toList s.data.toList = rawL s.data.toList from R5.out.symm] at HB
                  clear hpx hno RK hsz
                  go_wp2_with (first | (go_at_call 34; (with_reducible refine (HP _).mono ?_); rintro e w' ⟨rfl, rfl⟩) | (go_at_call 113; (refine (HB _ (hm.bl (hbx.alloc _))).mono ?_); rintro e w' ⟨rfl, hb9⟩))
                  go_ret
                  exact ⟨rfl, (hbx.alloc _).trans hb9⟩
                | false =>
                  have HP := fun W => hasPrefix_is s ⟨#[60, 63]⟩ false hpx W
                  have Q0 := Lib.hid (hno.a (by omega))
                  have Q1 := Lib.hid hpx
                  clear hpx RK
                  go_wp2_with (first | (go_at_call 34; (with_reducible refine (HP _).mono ?_); rintro e w' ⟨rfl, rfl⟩))
                  go_roundw
                  case rel => (repeat apply Exists.intro); exact ⟨⟨2, by omega, rfl, hbx.alloc _, by rw [((Bl.refl wr).alloc _).block (Array.getElem?_eq_some_iff.1 hrow).1]; exact hrow, ⟨fun _ => Q0.out, fun _ => Q1.out, by omega⟩⟩, rfl⟩
                  case measure => simp [intOf]
              · have RK := ((RF.out).trans (if_neg (by rw [hno.a (by omega)]; decide))).trans (if_neg (by rw [hno.b (by omega)]; decide))
                cases hpx : Lib.hasPrefix s.data.toList [60, 33, 91, 67, 68, 65, 84, 65, 91] with
                | true =>
                  have HP := fun W => hasPrefix_is s ⟨#[60, 33, 91, 67, 68, 65, 84, 65, 91]⟩ true hpx W
                  have hsz : (⟨#[60, 33, 91, 67, 68, 65, 84, 65, 91]⟩ : ByteArray).size ≤ s.size := prefix_size s _ hpx
                  have R5 := Lib.hid (RK.trans (if_pos hpx))
                  have HB := fun W hW => between_any s ⟨#[60, 33, 91, 67, 68, 65, 84, 65, 91]⟩ ⟨#[93, 93, 62]⟩ W hW hs hsz (by decide)
                  rw [show betweenL (⟨#[60, 33, 91, 67, 68, 65, 84, 65, 91]⟩ : ByteArray).data.toList (⟨#[93, 93, 62]⟩ : ByteArray).data.toList s.data.toList = rawL s.data.toList from R5.out.symm] at HB
                  clear hpx hno RK hsz
                  go_wp2_with (first | (go_at_call 34; (with_reducible refine (HP _).mono ?_); rintro e w' ⟨rfl, rfl⟩) | (go_at_call 113; (refine (HB _ (hm.bl (hbx.alloc _))).mono ?_); rintro e w' ⟨rfl, hb9⟩))
                  go_ret
                  exact ⟨rfl, (hbx.alloc _).trans hb9⟩
                | false =>
                  have HP := fun W => hasPrefix_is s ⟨#[60, 33, 91, 67, 68, 65, 84, 65, 91]⟩ false hpx W
                  have Q0 := Lib.hid (hno.a (by omega))
                  have Q1 := Lib.hid (hno.b (by omega))
                  have Q2 := Lib.hid hpx
                  clear hpx RK
                  go_wp2_with (first | (go_at_call 34; (with_reducible refine (HP _).mono ?_); rintro e w' ⟨rfl, rfl⟩))
                  go_roundw
                  case rel => (repeat apply Exists.intro); exact ⟨⟨3, by omega, rfl, hbx.alloc _, by rw [((Bl.refl wr).alloc _).block (Array.getElem?_eq_some_iff.1 hrow).1]; exact hrow, ⟨fun _ => Q0.out, fun _ => Q1.out, fun _ => Q2.out⟩⟩, rfl⟩
                  case measure => simp [intOf]
              · have R9 := Lib.hid ((((RF.out).trans (if_neg (by rw [hno.a (by omega)]; decide))).trans (if_neg (by rw [hno.b (by omega)]; decide))).trans (if_neg (by rw [hno.c (by omega)]; decide)))
                go_wp2
                go_ret
                exact ⟨ret_int (by rw [R9.out]; rfl), hbx⟩

end Go.Proofs.YtjocbifjmchbcaaGreatDoor
/- The contracts of class.Punct, class.Space, escape.Sign and delim's flanks. -/
namespace Go.Proofs.YtjocbifjmchbcaaGreatDoor
open Go.RowKit

def inI (r : Int) (s : Int × Int) : Bool := decide (s.1 ≤ r) && decide (r ≤ s.2)
set_option maxHeartbeats 1000000 in
theorem has_any (lo hi r : Int) (w : World) :
    Calls Tryz.prog 156 #[.agg #[.int .i32 lo, .int .i32 hi], .int .i32 r] w fun e w' => e = .returned (.bool (inI r (lo, hi))) ∧ Bl w w' := by
  unfold inI
  cases h1 : decide (lo ≤ r) <;> cases h2 : decide (r ≤ hi) <;>
    (go_enter Tryz.func156, Tryz.ntmps156
     go_wp2
     go_ret
     exact ⟨rfl, (Bl.refl w).alloc _⟩)
theorem any_next {α : Type} (t : List α) (f : α → Bool) (k : Nat) (hk : k < t.length) (h : (t.take k).any f = false) (h1 : f t[k] = false) : (t.take (k + 1)).any f = false := by
  rw [List.take_succ_eq_append_getElem hk, List.any_append, h]
  simp [h1]
theorem any_hit {α : Type} (t : List α) (f : α → Bool) (k : Nat) (hk : k < t.length) (h1 : f t[k] = true) : t.any f = true :=
  List.any_eq_true.mpr ⟨t[k], List.getElem_mem hk, h1⟩

def punctT : List (Int × Int) := [(33, 47), (58, 64), (91, 96), (123, 126), (161, 169), (171, 172), (174, 177), (180, 180), (182, 184), (187, 187), (191, 191), (215, 215), (247, 247), (8208, 8231), (8240, 8286), (8352, 8384), (12289, 12291), (12296, 12319), (65281, 65295)]
def punctI (r : Int) : Bool := punctT.any (inI r)
set_option maxRecDepth 100000 in
set_option maxHeartbeats 4000000 in
theorem punct_any (r : Int) (w : World) :
    Calls Tryz.prog 104 #[.int .i32 r] w fun e w' => e = .returned (.bool (punctI r)) ∧ Bl w w' := by
  go_enter Tryz.func104, Tryz.ntmps104
  go_wp2
  go_loopw [25] (fun i wr => ∃ k : Nat, k ≤ 19 ∧ i = .int .i64 k ∧ Bl w wr ∧ Hid ((punctT.take k).any (inI r) = false)) (fun i _ => 19 - (intOf i).toNat)
  case atStart => exact ⟨0, by omega, rfl, Bl.refl _, Lib.hid rfl⟩
  case round =>
    obtain ⟨k, hk, rfl, hb, hall⟩ := hrel
    match k, hk with
    | 0, hk =>
      have ix : ∀ w, (Instr.index 199 (.agg #[.int .i32 33, .int .i32 47, .int .i32 58, .int .i32 64, .int .i32 91, .int .i32 96, .int .i32 123, .int .i32 126, .int .i32 161, .int .i32 169, .int .i32 171, .int .i32 172, .int .i32 174, .int .i32 177, .int .i32 180, .int .i32 180, .int .i32 182, .int .i32 184, .int .i32 187, .int .i32 187, .int .i32 191, .int .i32 191, .int .i32 215, .int .i32 215, .int .i32 247, .int .i32 247, .int .i32 8208, .int .i32 8231, .int .i32 8240, .int .i32 8286, .int .i32 8352, .int .i32 8384, .int .i32 12289, .int .i32 12291, .int .i32 12296, .int .i32 12319, .int .i32 65281, .int .i32 65295]) (.int .i64 0)).run Tryz.prog w = .ok (.agg #[.int .i32 33, .int .i32 47]) w := fun _ => by kernel_rfl
      cases hin : inI r (33, 47) with
      | true =>
        have R := Lib.hid (show punctI r = true from any_hit punctT (inI r) 0 (by decide) hin)
        have HH := fun W => has_any 33 47 r W
        rw [hin] at HH
        clear hin
        go_wp2_with fail
        refine (HH _).mono ?_
        rintro e w2 ⟨rfl, hb2⟩
        go_wp2
        go_ret
        exact ⟨by rw [R.out]; rfl, (hb.alloc _).trans hb2⟩
      | false =>
        have H := Lib.hid (any_next punctT (inI r) 0 (by decide) hall.out hin)
        have HH := fun W => has_any 33 47 r W
        rw [hin] at HH
        clear hin
        go_wp2_with fail
        refine (HH _).mono ?_
        rintro e w2 ⟨rfl, hb2⟩
        go_wp2
        go_roundw
        case rel => exact ⟨0 + 1, by omega, by go_num, (hb.alloc _).trans hb2, H⟩
        case measure => simp [intOf]
    | 1, hk =>
      have ix : ∀ w, (Instr.index 199 (.agg #[.int .i32 33, .int .i32 47, .int .i32 58, .int .i32 64, .int .i32 91, .int .i32 96, .int .i32 123, .int .i32 126, .int .i32 161, .int .i32 169, .int .i32 171, .int .i32 172, .int .i32 174, .int .i32 177, .int .i32 180, .int .i32 180, .int .i32 182, .int .i32 184, .int .i32 187, .int .i32 187, .int .i32 191, .int .i32 191, .int .i32 215, .int .i32 215, .int .i32 247, .int .i32 247, .int .i32 8208, .int .i32 8231, .int .i32 8240, .int .i32 8286, .int .i32 8352, .int .i32 8384, .int .i32 12289, .int .i32 12291, .int .i32 12296, .int .i32 12319, .int .i32 65281, .int .i32 65295]) (.int .i64 1)).run Tryz.prog w = .ok (.agg #[.int .i32 58, .int .i32 64]) w := fun _ => by kernel_rfl
      cases hin : inI r (58, 64) with
      | true =>
        have R := Lib.hid (show punctI r = true from any_hit punctT (inI r) 1 (by decide) hin)
        have HH := fun W => has_any 58 64 r W
        rw [hin] at HH
        clear hin
        go_wp2_with fail
        refine (HH _).mono ?_
        rintro e w2 ⟨rfl, hb2⟩
        go_wp2
        go_ret
        exact ⟨by rw [R.out]; rfl, (hb.alloc _).trans hb2⟩
      | false =>
        have H := Lib.hid (any_next punctT (inI r) 1 (by decide) hall.out hin)
        have HH := fun W => has_any 58 64 r W
        rw [hin] at HH
        clear hin
        go_wp2_with fail
        refine (HH _).mono ?_
        rintro e w2 ⟨rfl, hb2⟩
        go_wp2
        go_roundw
        case rel => exact ⟨1 + 1, by omega, by go_num, (hb.alloc _).trans hb2, H⟩
        case measure => simp [intOf]
    | 2, hk =>
      have ix : ∀ w, (Instr.index 199 (.agg #[.int .i32 33, .int .i32 47, .int .i32 58, .int .i32 64, .int .i32 91, .int .i32 96, .int .i32 123, .int .i32 126, .int .i32 161, .int .i32 169, .int .i32 171, .int .i32 172, .int .i32 174, .int .i32 177, .int .i32 180, .int .i32 180, .int .i32 182, .int .i32 184, .int .i32 187, .int .i32 187, .int .i32 191, .int .i32 191, .int .i32 215, .int .i32 215, .int .i32 247, .int .i32 247, .int .i32 8208, .int .i32 8231, .int .i32 8240, .int .i32 8286, .int .i32 8352, .int .i32 8384, .int .i32 12289, .int .i32 12291, .int .i32 12296, .int .i32 12319, .int .i32 65281, .int .i32 65295]) (.int .i64 2)).run Tryz.prog w = .ok (.agg #[.int .i32 91, .int .i32 96]) w := fun _ => by kernel_rfl
      cases hin : inI r (91, 96) with
      | true =>
        have R := Lib.hid (show punctI r = true from any_hit punctT (inI r) 2 (by decide) hin)
        have HH := fun W => has_any 91 96 r W
        rw [hin] at HH
        clear hin
        go_wp2_with fail
        refine (HH _).mono ?_
        rintro e w2 ⟨rfl, hb2⟩
        go_wp2
        go_ret
        exact ⟨by rw [R.out]; rfl, (hb.alloc _).trans hb2⟩
      | false =>
        have H := Lib.hid (any_next punctT (inI r) 2 (by decide) hall.out hin)
        have HH := fun W => has_any 91 96 r W
        rw [hin] at HH
        clear hin
        go_wp2_with fail
        refine (HH _).mono ?_
        rintro e w2 ⟨rfl, hb2⟩
        go_wp2
        go_roundw
        case rel => exact ⟨2 + 1, by omega, by go_num, (hb.alloc _).trans hb2, H⟩
        case measure => simp [intOf]
    | 3, hk =>
      have ix : ∀ w, (Instr.index 199 (.agg #[.int .i32 33, .int .i32 47, .int .i32 58, .int .i32 64, .int .i32 91, .int .i32 96, .int .i32 123, .int .i32 126, .int .i32 161, .int .i32 169, .int .i32 171, .int .i32 172, .int .i32 174, .int .i32 177, .int .i32 180, .int .i32 180, .int .i32 182, .int .i32 184, .int .i32 187, .int .i32 187, .int .i32 191, .int .i32 191, .int .i32 215, .int .i32 215, .int .i32 247, .int .i32 247, .int .i32 8208, .int .i32 8231, .int .i32 8240, .int .i32 8286, .int .i32 8352, .int .i32 8384, .int .i32 12289, .int .i32 12291, .int .i32 12296, .int .i32 12319, .int .i32 65281, .int .i32 65295]) (.int .i64 3)).run Tryz.prog w = .ok (.agg #[.int .i32 123, .int .i32 126]) w := fun _ => by kernel_rfl
      cases hin : inI r (123, 126) with
      | true =>
        have R := Lib.hid (show punctI r = true from any_hit punctT (inI r) 3 (by decide) hin)
        have HH := fun W => has_any 123 126 r W
        rw [hin] at HH
        clear hin
        go_wp2_with fail
        refine (HH _).mono ?_
        rintro e w2 ⟨rfl, hb2⟩
        go_wp2
        go_ret
        exact ⟨by rw [R.out]; rfl, (hb.alloc _).trans hb2⟩
      | false =>
        have H := Lib.hid (any_next punctT (inI r) 3 (by decide) hall.out hin)
        have HH := fun W => has_any 123 126 r W
        rw [hin] at HH
        clear hin
        go_wp2_with fail
        refine (HH _).mono ?_
        rintro e w2 ⟨rfl, hb2⟩
        go_wp2
        go_roundw
        case rel => exact ⟨3 + 1, by omega, by go_num, (hb.alloc _).trans hb2, H⟩
        case measure => simp [intOf]
    | 4, hk =>
      have ix : ∀ w, (Instr.index 199 (.agg #[.int .i32 33, .int .i32 47, .int .i32 58, .int .i32 64, .int .i32 91, .int .i32 96, .int .i32 123, .int .i32 126, .int .i32 161, .int .i32 169, .int .i32 171, .int .i32 172, .int .i32 174, .int .i32 177, .int .i32 180, .int .i32 180, .int .i32 182, .int .i32 184, .int .i32 187, .int .i32 187, .int .i32 191, .int .i32 191, .int .i32 215, .int .i32 215, .int .i32 247, .int .i32 247, .int .i32 8208, .int .i32 8231, .int .i32 8240, .int .i32 8286, .int .i32 8352, .int .i32 8384, .int .i32 12289, .int .i32 12291, .int .i32 12296, .int .i32 12319, .int .i32 65281, .int .i32 65295]) (.int .i64 4)).run Tryz.prog w = .ok (.agg #[.int .i32 161, .int .i32 169]) w := fun _ => by kernel_rfl
      cases hin : inI r (161, 169) with
      | true =>
        have R := Lib.hid (show punctI r = true from any_hit punctT (inI r) 4 (by decide) hin)
        have HH := fun W => has_any 161 169 r W
        rw [hin] at HH
        clear hin
        go_wp2_with fail
        refine (HH _).mono ?_
        rintro e w2 ⟨rfl, hb2⟩
        go_wp2
        go_ret
        exact ⟨by rw [R.out]; rfl, (hb.alloc _).trans hb2⟩
      | false =>
        have H := Lib.hid (any_next punctT (inI r) 4 (by decide) hall.out hin)
        have HH := fun W => has_any 161 169 r W
        rw [hin] at HH
        clear hin
        go_wp2_with fail
        refine (HH _).mono ?_
        rintro e w2 ⟨rfl, hb2⟩
        go_wp2
        go_roundw
        case rel => exact ⟨4 + 1, by omega, by go_num, (hb.alloc _).trans hb2, H⟩
        case measure => simp [intOf]
    | 5, hk =>
      have ix : ∀ w, (Instr.index 199 (.agg #[.int .i32 33, .int .i32 47, .int .i32 58, .int .i32 64, .int .i32 91, .int .i32 96, .int .i32 123, .int .i32 126, .int .i32 161, .int .i32 169, .int .i32 171, .int .i32 172, .int .i32 174, .int .i32 177, .int .i32 180, .int .i32 180, .int .i32 182, .int .i32 184, .int .i32 187, .int .i32 187, .int .i32 191, .int .i32 191, .int .i32 215, .int .i32 215, .int .i32 247, .int .i32 247, .int .i32 8208, .int .i32 8231, .int .i32 8240, .int .i32 8286, .int .i32 8352, .int .i32 8384, .int .i32 12289, .int .i32 12291, .int .i32 12296, .int .i32 12319, .int .i32 65281, .int .i32 65295]) (.int .i64 5)).run Tryz.prog w = .ok (.agg #[.int .i32 171, .int .i32 172]) w := fun _ => by kernel_rfl
      cases hin : inI r (171, 172) with
      | true =>
        have R := Lib.hid (show punctI r = true from any_hit punctT (inI r) 5 (by decide) hin)
        have HH := fun W => has_any 171 172 r W
        rw [hin] at HH
        clear hin
        go_wp2_with fail
        refine (HH _).mono ?_
        rintro e w2 ⟨rfl, hb2⟩
        go_wp2
        go_ret
        exact ⟨by rw [R.out]; rfl, (hb.alloc _).trans hb2⟩
      | false =>
        have H := Lib.hid (any_next punctT (inI r) 5 (by decide) hall.out hin)
        have HH := fun W => has_any 171 172 r W
        rw [hin] at HH
        clear hin
        go_wp2_with fail
        refine (HH _).mono ?_
        rintro e w2 ⟨rfl, hb2⟩
        go_wp2
        go_roundw
        case rel => exact ⟨5 + 1, by omega, by go_num, (hb.alloc _).trans hb2, H⟩
        case measure => simp [intOf]
    | 6, hk =>
      have ix : ∀ w, (Instr.index 199 (.agg #[.int .i32 33, .int .i32 47, .int .i32 58, .int .i32 64, .int .i32 91, .int .i32 96, .int .i32 123, .int .i32 126, .int .i32 161, .int .i32 169, .int .i32 171, .int .i32 172, .int .i32 174, .int .i32 177, .int .i32 180, .int .i32 180, .int .i32 182, .int .i32 184, .int .i32 187, .int .i32 187, .int .i32 191, .int .i32 191, .int .i32 215, .int .i32 215, .int .i32 247, .int .i32 247, .int .i32 8208, .int .i32 8231, .int .i32 8240, .int .i32 8286, .int .i32 8352, .int .i32 8384, .int .i32 12289, .int .i32 12291, .int .i32 12296, .int .i32 12319, .int .i32 65281, .int .i32 65295]) (.int .i64 6)).run Tryz.prog w = .ok (.agg #[.int .i32 174, .int .i32 177]) w := fun _ => by kernel_rfl
      cases hin : inI r (174, 177) with
      | true =>
        have R := Lib.hid (show punctI r = true from any_hit punctT (inI r) 6 (by decide) hin)
        have HH := fun W => has_any 174 177 r W
        rw [hin] at HH
        clear hin
        go_wp2_with fail
        refine (HH _).mono ?_
        rintro e w2 ⟨rfl, hb2⟩
        go_wp2
        go_ret
        exact ⟨by rw [R.out]; rfl, (hb.alloc _).trans hb2⟩
      | false =>
        have H := Lib.hid (any_next punctT (inI r) 6 (by decide) hall.out hin)
        have HH := fun W => has_any 174 177 r W
        rw [hin] at HH
        clear hin
        go_wp2_with fail
        refine (HH _).mono ?_
        rintro e w2 ⟨rfl, hb2⟩
        go_wp2
        go_roundw
        case rel => exact ⟨6 + 1, by omega, by go_num, (hb.alloc _).trans hb2, H⟩
        case measure => simp [intOf]
    | 7, hk =>
      have ix : ∀ w, (Instr.index 199 (.agg #[.int .i32 33, .int .i32 47, .int .i32 58, .int .i32 64, .int .i32 91, .int .i32 96, .int .i32 123, .int .i32 126, .int .i32 161, .int .i32 169, .int .i32 171, .int .i32 172, .int .i32 174, .int .i32 177, .int .i32 180, .int .i32 180, .int .i32 182, .int .i32 184, .int .i32 187, .int .i32 187, .int .i32 191, .int .i32 191, .int .i32 215, .int .i32 215, .int .i32 247, .int .i32 247, .int .i32 8208, .int .i32 8231, .int .i32 8240, .int .i32 8286, .int .i32 8352, .int .i32 8384, .int .i32 12289, .int .i32 12291, .int .i32 12296, .int .i32 12319, .int .i32 65281, .int .i32 65295]) (.int .i64 7)).run Tryz.prog w = .ok (.agg #[.int .i32 180, .int .i32 180]) w := fun _ => by kernel_rfl
      cases hin : inI r (180, 180) with
      | true =>
        have R := Lib.hid (show punctI r = true from any_hit punctT (inI r) 7 (by decide) hin)
        have HH := fun W => has_any 180 180 r W
        rw [hin] at HH
        clear hin
        go_wp2_with fail
        refine (HH _).mono ?_
        rintro e w2 ⟨rfl, hb2⟩
        go_wp2
        go_ret
        exact ⟨by rw [R.out]; rfl, (hb.alloc _).trans hb2⟩
      | false =>
        have H := Lib.hid (any_next punctT (inI r) 7 (by decide) hall.out hin)
        have HH := fun W => has_any 180 180 r W
        rw [hin] at HH
        clear hin
        go_wp2_with fail
        refine (HH _).mono ?_
        rintro e w2 ⟨rfl, hb2⟩
        go_wp2
        go_roundw
        case rel => exact ⟨7 + 1, by omega, by go_num, (hb.alloc _).trans hb2, H⟩
        case measure => simp [intOf]
    | 8, hk =>
      have ix : ∀ w, (Instr.index 199 (.agg #[.int .i32 33, .int .i32 47, .int .i32 58, .int .i32 64, .int .i32 91, .int .i32 96, .int .i32 123, .int .i32 126, .int .i32 161, .int .i32 169, .int .i32 171, .int .i32 172, .int .i32 174, .int .i32 177, .int .i32 180, .int .i32 180, .int .i32 182, .int .i32 184, .int .i32 187, .int .i32 187, .int .i32 191, .int .i32 191, .int .i32 215, .int .i32 215, .int .i32 247, .int .i32 247, .int .i32 8208, .int .i32 8231, .int .i32 8240, .int .i32 8286, .int .i32 8352, .int .i32 8384, .int .i32 12289, .int .i32 12291, .int .i32 12296, .int .i32 12319, .int .i32 65281, .int .i32 65295]) (.int .i64 8)).run Tryz.prog w = .ok (.agg #[.int .i32 182, .int .i32 184]) w := fun _ => by kernel_rfl
      cases hin : inI r (182, 184) with
      | true =>
        have R := Lib.hid (show punctI r = true from any_hit punctT (inI r) 8 (by decide) hin)
        have HH := fun W => has_any 182 184 r W
        rw [hin] at HH
        clear hin
        go_wp2_with fail
        refine (HH _).mono ?_
        rintro e w2 ⟨rfl, hb2⟩
        go_wp2
        go_ret
        exact ⟨by rw [R.out]; rfl, (hb.alloc _).trans hb2⟩
      | false =>
        have H := Lib.hid (any_next punctT (inI r) 8 (by decide) hall.out hin)
        have HH := fun W => has_any 182 184 r W
        rw [hin] at HH
        clear hin
        go_wp2_with fail
        refine (HH _).mono ?_
        rintro e w2 ⟨rfl, hb2⟩
        go_wp2
        go_roundw
        case rel => exact ⟨8 + 1, by omega, by go_num, (hb.alloc _).trans hb2, H⟩
        case measure => simp [intOf]
    | 9, hk =>
      have ix : ∀ w, (Instr.index 199 (.agg #[.int .i32 33, .int .i32 47, .int .i32 58, .int .i32 64, .int .i32 91, .int .i32 96, .int .i32 123, .int .i32 126, .int .i32 161, .int .i32 169, .int .i32 171, .int .i32 172, .int .i32 174, .int .i32 177, .int .i32 180, .int .i32 180, .int .i32 182, .int .i32 184, .int .i32 187, .int .i32 187, .int .i32 191, .int .i32 191, .int .i32 215, .int .i32 215, .int .i32 247, .int .i32 247, .int .i32 8208, .int .i32 8231, .int .i32 8240, .int .i32 8286, .int .i32 8352, .int .i32 8384, .int .i32 12289, .int .i32 12291, .int .i32 12296, .int .i32 12319, .int .i32 65281, .int .i32 65295]) (.int .i64 9)).run Tryz.prog w = .ok (.agg #[.int .i32 187, .int .i32 187]) w := fun _ => by kernel_rfl
      cases hin : inI r (187, 187) with
      | true =>
        have R := Lib.hid (show punctI r = true from any_hit punctT (inI r) 9 (by decide) hin)
        have HH := fun W => has_any 187 187 r W
        rw [hin] at HH
        clear hin
        go_wp2_with fail
        refine (HH _).mono ?_
        rintro e w2 ⟨rfl, hb2⟩
        go_wp2
        go_ret
        exact ⟨by rw [R.out]; rfl, (hb.alloc _).trans hb2⟩
      | false =>
        have H := Lib.hid (any_next punctT (inI r) 9 (by decide) hall.out hin)
        have HH := fun W => has_any 187 187 r W
        rw [hin] at HH
        clear hin
        go_wp2_with fail
        refine (HH _).mono ?_
        rintro e w2 ⟨rfl, hb2⟩
        go_wp2
        go_roundw
        case rel => exact ⟨9 + 1, by omega, by go_num, (hb.alloc _).trans hb2, H⟩
        case measure => simp [intOf]
    | 10, hk =>
      have ix : ∀ w, (Instr.index 199 (.agg #[.int .i32 33, .int .i32 47, .int .i32 58, .int .i32 64, .int .i32 91, .int .i32 96, .int .i32 123, .int .i32 126, .int .i32 161, .int .i32 169, .int .i32 171, .int .i32 172, .int .i32 174, .int .i32 177, .int .i32 180, .int .i32 180, .int .i32 182, .int .i32 184, .int .i32 187, .int .i32 187, .int .i32 191, .int .i32 191, .int .i32 215, .int .i32 215, .int .i32 247, .int .i32 247, .int .i32 8208, .int .i32 8231, .int .i32 8240, .int .i32 8286, .int .i32 8352, .int .i32 8384, .int .i32 12289, .int .i32 12291, .int .i32 12296, .int .i32 12319, .int .i32 65281, .int .i32 65295]) (.int .i64 10)).run Tryz.prog w = .ok (.agg #[.int .i32 191, .int .i32 191]) w := fun _ => by kernel_rfl
      cases hin : inI r (191, 191) with
      | true =>
        have R := Lib.hid (show punctI r = true from any_hit punctT (inI r) 10 (by decide) hin)
        have HH := fun W => has_any 191 191 r W
        rw [hin] at HH
        clear hin
        go_wp2_with fail
        refine (HH _).mono ?_
        rintro e w2 ⟨rfl, hb2⟩
        go_wp2
        go_ret
        exact ⟨by rw [R.out]; rfl, (hb.alloc _).trans hb2⟩
      | false =>
        have H := Lib.hid (any_next punctT (inI r) 10 (by decide) hall.out hin)
        have HH := fun W => has_any 191 191 r W
        rw [hin] at HH
        clear hin
        go_wp2_with fail
        refine (HH _).mono ?_
        rintro e w2 ⟨rfl, hb2⟩
        go_wp2
        go_roundw
        case rel => exact ⟨10 + 1, by omega, by go_num, (hb.alloc _).trans hb2, H⟩
        case measure => simp [intOf]
    | 11, hk =>
      have ix : ∀ w, (Instr.index 199 (.agg #[.int .i32 33, .int .i32 47, .int .i32 58, .int .i32 64, .int .i32 91, .int .i32 96, .int .i32 123, .int .i32 126, .int .i32 161, .int .i32 169, .int .i32 171, .int .i32 172, .int .i32 174, .int .i32 177, .int .i32 180, .int .i32 180, .int .i32 182, .int .i32 184, .int .i32 187, .int .i32 187, .int .i32 191, .int .i32 191, .int .i32 215, .int .i32 215, .int .i32 247, .int .i32 247, .int .i32 8208, .int .i32 8231, .int .i32 8240, .int .i32 8286, .int .i32 8352, .int .i32 8384, .int .i32 12289, .int .i32 12291, .int .i32 12296, .int .i32 12319, .int .i32 65281, .int .i32 65295]) (.int .i64 11)).run Tryz.prog w = .ok (.agg #[.int .i32 215, .int .i32 215]) w := fun _ => by kernel_rfl
      cases hin : inI r (215, 215) with
      | true =>
        have R := Lib.hid (show punctI r = true from any_hit punctT (inI r) 11 (by decide) hin)
        have HH := fun W => has_any 215 215 r W
        rw [hin] at HH
        clear hin
        go_wp2_with fail
        refine (HH _).mono ?_
        rintro e w2 ⟨rfl, hb2⟩
        go_wp2
        go_ret
        exact ⟨by rw [R.out]; rfl, (hb.alloc _).trans hb2⟩
      | false =>
        have H := Lib.hid (any_next punctT (inI r) 11 (by decide) hall.out hin)
        have HH := fun W => has_any 215 215 r W
        rw [hin] at HH
        clear hin
        go_wp2_with fail
        refine (HH _).mono ?_
        rintro e w2 ⟨rfl, hb2⟩
        go_wp2
        go_roundw
        case rel => exact ⟨11 + 1, by omega, by go_num, (hb.alloc _).trans hb2, H⟩
        case measure => simp [intOf]
    | 12, hk =>
      have ix : ∀ w, (Instr.index 199 (.agg #[.int .i32 33, .int .i32 47, .int .i32 58, .int .i32 64, .int .i32 91, .int .i32 96, .int .i32 123, .int .i32 126, .int .i32 161, .int .i32 169, .int .i32 171, .int .i32 172, .int .i32 174, .int .i32 177, .int .i32 180, .int .i32 180, .int .i32 182, .int .i32 184, .int .i32 187, .int .i32 187, .int .i32 191, .int .i32 191, .int .i32 215, .int .i32 215, .int .i32 247, .int .i32 247, .int .i32 8208, .int .i32 8231, .int .i32 8240, .int .i32 8286, .int .i32 8352, .int .i32 8384, .int .i32 12289, .int .i32 12291, .int .i32 12296, .int .i32 12319, .int .i32 65281, .int .i32 65295]) (.int .i64 12)).run Tryz.prog w = .ok (.agg #[.int .i32 247, .int .i32 247]) w := fun _ => by kernel_rfl
      cases hin : inI r (247, 247) with
      | true =>
        have R := Lib.hid (show punctI r = true from any_hit punctT (inI r) 12 (by decide) hin)
        have HH := fun W => has_any 247 247 r W
        rw [hin] at HH
        clear hin
        go_wp2_with fail
        refine (HH _).mono ?_
        rintro e w2 ⟨rfl, hb2⟩
        go_wp2
        go_ret
        exact ⟨by rw [R.out]; rfl, (hb.alloc _).trans hb2⟩
      | false =>
        have H := Lib.hid (any_next punctT (inI r) 12 (by decide) hall.out hin)
        have HH := fun W => has_any 247 247 r W
        rw [hin] at HH
        clear hin
        go_wp2_with fail
        refine (HH _).mono ?_
        rintro e w2 ⟨rfl, hb2⟩
        go_wp2
        go_roundw
        case rel => exact ⟨12 + 1, by omega, by go_num, (hb.alloc _).trans hb2, H⟩
        case measure => simp [intOf]
    | 13, hk =>
      have ix : ∀ w, (Instr.index 199 (.agg #[.int .i32 33, .int .i32 47, .int .i32 58, .int .i32 64, .int .i32 91, .int .i32 96, .int .i32 123, .int .i32 126, .int .i32 161, .int .i32 169, .int .i32 171, .int .i32 172, .int .i32 174, .int .i32 177, .int .i32 180, .int .i32 180, .int .i32 182, .int .i32 184, .int .i32 187, .int .i32 187, .int .i32 191, .int .i32 191, .int .i32 215, .int .i32 215, .int .i32 247, .int .i32 247, .int .i32 8208, .int .i32 8231, .int .i32 8240, .int .i32 8286, .int .i32 8352, .int .i32 8384, .int .i32 12289, .int .i32 12291, .int .i32 12296, .int .i32 12319, .int .i32 65281, .int .i32 65295]) (.int .i64 13)).run Tryz.prog w = .ok (.agg #[.int .i32 8208, .int .i32 8231]) w := fun _ => by kernel_rfl
      cases hin : inI r (8208, 8231) with
      | true =>
        have R := Lib.hid (show punctI r = true from any_hit punctT (inI r) 13 (by decide) hin)
        have HH := fun W => has_any 8208 8231 r W
        rw [hin] at HH
        clear hin
        go_wp2_with fail
        refine (HH _).mono ?_
        rintro e w2 ⟨rfl, hb2⟩
        go_wp2
        go_ret
        exact ⟨by rw [R.out]; rfl, (hb.alloc _).trans hb2⟩
      | false =>
        have H := Lib.hid (any_next punctT (inI r) 13 (by decide) hall.out hin)
        have HH := fun W => has_any 8208 8231 r W
        rw [hin] at HH
        clear hin
        go_wp2_with fail
        refine (HH _).mono ?_
        rintro e w2 ⟨rfl, hb2⟩
        go_wp2
        go_roundw
        case rel => exact ⟨13 + 1, by omega, by go_num, (hb.alloc _).trans hb2, H⟩
        case measure => simp [intOf]
    | 14, hk =>
      have ix : ∀ w, (Instr.index 199 (.agg #[.int .i32 33, .int .i32 47, .int .i32 58, .int .i32 64, .int .i32 91, .int .i32 96, .int .i32 123, .int .i32 126, .int .i32 161, .int .i32 169, .int .i32 171, .int .i32 172, .int .i32 174, .int .i32 177, .int .i32 180, .int .i32 180, .int .i32 182, .int .i32 184, .int .i32 187, .int .i32 187, .int .i32 191, .int .i32 191, .int .i32 215, .int .i32 215, .int .i32 247, .int .i32 247, .int .i32 8208, .int .i32 8231, .int .i32 8240, .int .i32 8286, .int .i32 8352, .int .i32 8384, .int .i32 12289, .int .i32 12291, .int .i32 12296, .int .i32 12319, .int .i32 65281, .int .i32 65295]) (.int .i64 14)).run Tryz.prog w = .ok (.agg #[.int .i32 8240, .int .i32 8286]) w := fun _ => by kernel_rfl
      cases hin : inI r (8240, 8286) with
      | true =>
        have R := Lib.hid (show punctI r = true from any_hit punctT (inI r) 14 (by decide) hin)
        have HH := fun W => has_any 8240 8286 r W
        rw [hin] at HH
        clear hin
        go_wp2_with fail
        refine (HH _).mono ?_
        rintro e w2 ⟨rfl, hb2⟩
        go_wp2
        go_ret
        exact ⟨by rw [R.out]; rfl, (hb.alloc _).trans hb2⟩
      | false =>
        have H := Lib.hid (any_next punctT (inI r) 14 (by decide) hall.out hin)
        have HH := fun W => has_any 8240 8286 r W
        rw [hin] at HH
        clear hin
        go_wp2_with fail
        refine (HH _).mono ?_
        rintro e w2 ⟨rfl, hb2⟩
        go_wp2
        go_roundw
        case rel => exact ⟨14 + 1, by omega, by go_num, (hb.alloc _).trans hb2, H⟩
        case measure => simp [intOf]
    | 15, hk =>
      have ix : ∀ w, (Instr.index 199 (.agg #[.int .i32 33, .int .i32 47, .int .i32 58, .int .i32 64, .int .i32 91, .int .i32 96, .int .i32 123, .int .i32 126, .int .i32 161, .int .i32 169, .int .i32 171, .int .i32 172, .int .i32 174, .int .i32 177, .int .i32 180, .int .i32 180, .int .i32 182, .int .i32 184, .int .i32 187, .int .i32 187, .int .i32 191, .int .i32 191, .int .i32 215, .int .i32 215, .int .i32 247, .int .i32 247, .int .i32 8208, .int .i32 8231, .int .i32 8240, .int .i32 8286, .int .i32 8352, .int .i32 8384, .int .i32 12289, .int .i32 12291, .int .i32 12296, .int .i32 12319, .int .i32 65281, .int .i32 65295]) (.int .i64 15)).run Tryz.prog w = .ok (.agg #[.int .i32 8352, .int .i32 8384]) w := fun _ => by kernel_rfl
      cases hin : inI r (8352, 8384) with
      | true =>
        have R := Lib.hid (show punctI r = true from any_hit punctT (inI r) 15 (by decide) hin)
        have HH := fun W => has_any 8352 8384 r W
        rw [hin] at HH
        clear hin
        go_wp2_with fail
        refine (HH _).mono ?_
        rintro e w2 ⟨rfl, hb2⟩
        go_wp2
        go_ret
        exact ⟨by rw [R.out]; rfl, (hb.alloc _).trans hb2⟩
      | false =>
        have H := Lib.hid (any_next punctT (inI r) 15 (by decide) hall.out hin)
        have HH := fun W => has_any 8352 8384 r W
        rw [hin] at HH
        clear hin
        go_wp2_with fail
        refine (HH _).mono ?_
        rintro e w2 ⟨rfl, hb2⟩
        go_wp2
        go_roundw
        case rel => exact ⟨15 + 1, by omega, by go_num, (hb.alloc _).trans hb2, H⟩
        case measure => simp [intOf]
    | 16, hk =>
      have ix : ∀ w, (Instr.index 199 (.agg #[.int .i32 33, .int .i32 47, .int .i32 58, .int .i32 64, .int .i32 91, .int .i32 96, .int .i32 123, .int .i32 126, .int .i32 161, .int .i32 169, .int .i32 171, .int .i32 172, .int .i32 174, .int .i32 177, .int .i32 180, .int .i32 180, .int .i32 182, .int .i32 184, .int .i32 187, .int .i32 187, .int .i32 191, .int .i32 191, .int .i32 215, .int .i32 215, .int .i32 247, .int .i32 247, .int .i32 8208, .int .i32 8231, .int .i32 8240, .int .i32 8286, .int .i32 8352, .int .i32 8384, .int .i32 12289, .int .i32 12291, .int .i32 12296, .int .i32 12319, .int .i32 65281, .int .i32 65295]) (.int .i64 16)).run Tryz.prog w = .ok (.agg #[.int .i32 12289, .int .i32 12291]) w := fun _ => by kernel_rfl
      cases hin : inI r (12289, 12291) with
      | true =>
        have R := Lib.hid (show punctI r = true from any_hit punctT (inI r) 16 (by decide) hin)
        have HH := fun W => has_any 12289 12291 r W
        rw [hin] at HH
        clear hin
        go_wp2_with fail
        refine (HH _).mono ?_
        rintro e w2 ⟨rfl, hb2⟩
        go_wp2
        go_ret
        exact ⟨by rw [R.out]; rfl, (hb.alloc _).trans hb2⟩
      | false =>
        have H := Lib.hid (any_next punctT (inI r) 16 (by decide) hall.out hin)
        have HH := fun W => has_any 12289 12291 r W
        rw [hin] at HH
        clear hin
        go_wp2_with fail
        refine (HH _).mono ?_
        rintro e w2 ⟨rfl, hb2⟩
        go_wp2
        go_roundw
        case rel => exact ⟨16 + 1, by omega, by go_num, (hb.alloc _).trans hb2, H⟩
        case measure => simp [intOf]
    | 17, hk =>
      have ix : ∀ w, (Instr.index 199 (.agg #[.int .i32 33, .int .i32 47, .int .i32 58, .int .i32 64, .int .i32 91, .int .i32 96, .int .i32 123, .int .i32 126, .int .i32 161, .int .i32 169, .int .i32 171, .int .i32 172, .int .i32 174, .int .i32 177, .int .i32 180, .int .i32 180, .int .i32 182, .int .i32 184, .int .i32 187, .int .i32 187, .int .i32 191, .int .i32 191, .int .i32 215, .int .i32 215, .int .i32 247, .int .i32 247, .int .i32 8208, .int .i32 8231, .int .i32 8240, .int .i32 8286, .int .i32 8352, .int .i32 8384, .int .i32 12289, .int .i32 12291, .int .i32 12296, .int .i32 12319, .int .i32 65281, .int .i32 65295]) (.int .i64 17)).run Tryz.prog w = .ok (.agg #[.int .i32 12296, .int .i32 12319]) w := fun _ => by kernel_rfl
      cases hin : inI r (12296, 12319) with
      | true =>
        have R := Lib.hid (show punctI r = true from any_hit punctT (inI r) 17 (by decide) hin)
        have HH := fun W => has_any 12296 12319 r W
        rw [hin] at HH
        clear hin
        go_wp2_with fail
        refine (HH _).mono ?_
        rintro e w2 ⟨rfl, hb2⟩
        go_wp2
        go_ret
        exact ⟨by rw [R.out]; rfl, (hb.alloc _).trans hb2⟩
      | false =>
        have H := Lib.hid (any_next punctT (inI r) 17 (by decide) hall.out hin)
        have HH := fun W => has_any 12296 12319 r W
        rw [hin] at HH
        clear hin
        go_wp2_with fail
        refine (HH _).mono ?_
        rintro e w2 ⟨rfl, hb2⟩
        go_wp2
        go_roundw
        case rel => exact ⟨17 + 1, by omega, by go_num, (hb.alloc _).trans hb2, H⟩
        case measure => simp [intOf]
    | 18, hk =>
      have ix : ∀ w, (Instr.index 199 (.agg #[.int .i32 33, .int .i32 47, .int .i32 58, .int .i32 64, .int .i32 91, .int .i32 96, .int .i32 123, .int .i32 126, .int .i32 161, .int .i32 169, .int .i32 171, .int .i32 172, .int .i32 174, .int .i32 177, .int .i32 180, .int .i32 180, .int .i32 182, .int .i32 184, .int .i32 187, .int .i32 187, .int .i32 191, .int .i32 191, .int .i32 215, .int .i32 215, .int .i32 247, .int .i32 247, .int .i32 8208, .int .i32 8231, .int .i32 8240, .int .i32 8286, .int .i32 8352, .int .i32 8384, .int .i32 12289, .int .i32 12291, .int .i32 12296, .int .i32 12319, .int .i32 65281, .int .i32 65295]) (.int .i64 18)).run Tryz.prog w = .ok (.agg #[.int .i32 65281, .int .i32 65295]) w := fun _ => by kernel_rfl
      cases hin : inI r (65281, 65295) with
      | true =>
        have R := Lib.hid (show punctI r = true from any_hit punctT (inI r) 18 (by decide) hin)
        have HH := fun W => has_any 65281 65295 r W
        rw [hin] at HH
        clear hin
        go_wp2_with fail
        refine (HH _).mono ?_
        rintro e w2 ⟨rfl, hb2⟩
        go_wp2
        go_ret
        exact ⟨by rw [R.out]; rfl, (hb.alloc _).trans hb2⟩
      | false =>
        have H := Lib.hid (any_next punctT (inI r) 18 (by decide) hall.out hin)
        have HH := fun W => has_any 65281 65295 r W
        rw [hin] at HH
        clear hin
        go_wp2_with fail
        refine (HH _).mono ?_
        rintro e w2 ⟨rfl, hb2⟩
        go_wp2
        go_roundw
        case rel => exact ⟨18 + 1, by omega, by go_num, (hb.alloc _).trans hb2, H⟩
        case measure => simp [intOf]
    | 19, hk =>
      have R := Lib.hid (show punctI r = false from hall.out)
      go_wp2
      go_ret
      exact ⟨by rw [R.out]; rfl, hb⟩
    | k + 20, hk => omega

def spaceT : List (Int × Int) := [(9, 10), (12, 13), (32, 32), (160, 160), (5760, 5760), (8192, 8202), (8239, 8239), (8287, 8287), (12288, 12288)]
def spaceI (r : Int) : Bool := spaceT.any (inI r)
set_option maxRecDepth 100000 in
set_option maxHeartbeats 4000000 in
theorem space_any (r : Int) (w : World) :
    Calls Tryz.prog 238 #[.int .i32 r] w fun e w' => e = .returned (.bool (spaceI r)) ∧ Bl w w' := by
  go_enter Tryz.func238, Tryz.ntmps238
  go_wp2
  go_loopw [15] (fun i wr => ∃ k : Nat, k ≤ 9 ∧ i = .int .i64 k ∧ Bl w wr ∧ Hid ((spaceT.take k).any (inI r) = false)) (fun i _ => 9 - (intOf i).toNat)
  case atStart => exact ⟨0, by omega, rfl, Bl.refl _, Lib.hid rfl⟩
  case round =>
    obtain ⟨k, hk, rfl, hb, hall⟩ := hrel
    match k, hk with
    | 0, hk =>
      have ix : ∀ w, (Instr.index 266 (.agg #[.int .i32 9, .int .i32 10, .int .i32 12, .int .i32 13, .int .i32 32, .int .i32 32, .int .i32 160, .int .i32 160, .int .i32 5760, .int .i32 5760, .int .i32 8192, .int .i32 8202, .int .i32 8239, .int .i32 8239, .int .i32 8287, .int .i32 8287, .int .i32 12288, .int .i32 12288]) (.int .i64 0)).run Tryz.prog w = .ok (.agg #[.int .i32 9, .int .i32 10]) w := fun _ => by kernel_rfl
      cases hin : inI r (9, 10) with
      | true =>
        have R := Lib.hid (show spaceI r = true from any_hit spaceT (inI r) 0 (by decide) hin)
        have HH := fun W => has_any 9 10 r W
        rw [hin] at HH
        clear hin
        go_wp2_with fail
        refine (HH _).mono ?_
        rintro e w2 ⟨rfl, hb2⟩
        go_wp2
        go_ret
        exact ⟨by rw [R.out]; rfl, (hb.alloc _).trans hb2⟩
      | false =>
        have H := Lib.hid (any_next spaceT (inI r) 0 (by decide) hall.out hin)
        have HH := fun W => has_any 9 10 r W
        rw [hin] at HH
        clear hin
        go_wp2_with fail
        refine (HH _).mono ?_
        rintro e w2 ⟨rfl, hb2⟩
        go_wp2
        go_roundw
        case rel => exact ⟨0 + 1, by omega, by go_num, (hb.alloc _).trans hb2, H⟩
        case measure => simp [intOf]
    | 1, hk =>
      have ix : ∀ w, (Instr.index 266 (.agg #[.int .i32 9, .int .i32 10, .int .i32 12, .int .i32 13, .int .i32 32, .int .i32 32, .int .i32 160, .int .i32 160, .int .i32 5760, .int .i32 5760, .int .i32 8192, .int .i32 8202, .int .i32 8239, .int .i32 8239, .int .i32 8287, .int .i32 8287, .int .i32 12288, .int .i32 12288]) (.int .i64 1)).run Tryz.prog w = .ok (.agg #[.int .i32 12, .int .i32 13]) w := fun _ => by kernel_rfl
      cases hin : inI r (12, 13) with
      | true =>
        have R := Lib.hid (show spaceI r = true from any_hit spaceT (inI r) 1 (by decide) hin)
        have HH := fun W => has_any 12 13 r W
        rw [hin] at HH
        clear hin
        go_wp2_with fail
        refine (HH _).mono ?_
        rintro e w2 ⟨rfl, hb2⟩
        go_wp2
        go_ret
        exact ⟨by rw [R.out]; rfl, (hb.alloc _).trans hb2⟩
      | false =>
        have H := Lib.hid (any_next spaceT (inI r) 1 (by decide) hall.out hin)
        have HH := fun W => has_any 12 13 r W
        rw [hin] at HH
        clear hin
        go_wp2_with fail
        refine (HH _).mono ?_
        rintro e w2 ⟨rfl, hb2⟩
        go_wp2
        go_roundw
        case rel => exact ⟨1 + 1, by omega, by go_num, (hb.alloc _).trans hb2, H⟩
        case measure => simp [intOf]
    | 2, hk =>
      have ix : ∀ w, (Instr.index 266 (.agg #[.int .i32 9, .int .i32 10, .int .i32 12, .int .i32 13, .int .i32 32, .int .i32 32, .int .i32 160, .int .i32 160, .int .i32 5760, .int .i32 5760, .int .i32 8192, .int .i32 8202, .int .i32 8239, .int .i32 8239, .int .i32 8287, .int .i32 8287, .int .i32 12288, .int .i32 12288]) (.int .i64 2)).run Tryz.prog w = .ok (.agg #[.int .i32 32, .int .i32 32]) w := fun _ => by kernel_rfl
      cases hin : inI r (32, 32) with
      | true =>
        have R := Lib.hid (show spaceI r = true from any_hit spaceT (inI r) 2 (by decide) hin)
        have HH := fun W => has_any 32 32 r W
        rw [hin] at HH
        clear hin
        go_wp2_with fail
        refine (HH _).mono ?_
        rintro e w2 ⟨rfl, hb2⟩
        go_wp2
        go_ret
        exact ⟨by rw [R.out]; rfl, (hb.alloc _).trans hb2⟩
      | false =>
        have H := Lib.hid (any_next spaceT (inI r) 2 (by decide) hall.out hin)
        have HH := fun W => has_any 32 32 r W
        rw [hin] at HH
        clear hin
        go_wp2_with fail
        refine (HH _).mono ?_
        rintro e w2 ⟨rfl, hb2⟩
        go_wp2
        go_roundw
        case rel => exact ⟨2 + 1, by omega, by go_num, (hb.alloc _).trans hb2, H⟩
        case measure => simp [intOf]
    | 3, hk =>
      have ix : ∀ w, (Instr.index 266 (.agg #[.int .i32 9, .int .i32 10, .int .i32 12, .int .i32 13, .int .i32 32, .int .i32 32, .int .i32 160, .int .i32 160, .int .i32 5760, .int .i32 5760, .int .i32 8192, .int .i32 8202, .int .i32 8239, .int .i32 8239, .int .i32 8287, .int .i32 8287, .int .i32 12288, .int .i32 12288]) (.int .i64 3)).run Tryz.prog w = .ok (.agg #[.int .i32 160, .int .i32 160]) w := fun _ => by kernel_rfl
      cases hin : inI r (160, 160) with
      | true =>
        have R := Lib.hid (show spaceI r = true from any_hit spaceT (inI r) 3 (by decide) hin)
        have HH := fun W => has_any 160 160 r W
        rw [hin] at HH
        clear hin
        go_wp2_with fail
        refine (HH _).mono ?_
        rintro e w2 ⟨rfl, hb2⟩
        go_wp2
        go_ret
        exact ⟨by rw [R.out]; rfl, (hb.alloc _).trans hb2⟩
      | false =>
        have H := Lib.hid (any_next spaceT (inI r) 3 (by decide) hall.out hin)
        have HH := fun W => has_any 160 160 r W
        rw [hin] at HH
        clear hin
        go_wp2_with fail
        refine (HH _).mono ?_
        rintro e w2 ⟨rfl, hb2⟩
        go_wp2
        go_roundw
        case rel => exact ⟨3 + 1, by omega, by go_num, (hb.alloc _).trans hb2, H⟩
        case measure => simp [intOf]
    | 4, hk =>
      have ix : ∀ w, (Instr.index 266 (.agg #[.int .i32 9, .int .i32 10, .int .i32 12, .int .i32 13, .int .i32 32, .int .i32 32, .int .i32 160, .int .i32 160, .int .i32 5760, .int .i32 5760, .int .i32 8192, .int .i32 8202, .int .i32 8239, .int .i32 8239, .int .i32 8287, .int .i32 8287, .int .i32 12288, .int .i32 12288]) (.int .i64 4)).run Tryz.prog w = .ok (.agg #[.int .i32 5760, .int .i32 5760]) w := fun _ => by kernel_rfl
      cases hin : inI r (5760, 5760) with
      | true =>
        have R := Lib.hid (show spaceI r = true from any_hit spaceT (inI r) 4 (by decide) hin)
        have HH := fun W => has_any 5760 5760 r W
        rw [hin] at HH
        clear hin
        go_wp2_with fail
        refine (HH _).mono ?_
        rintro e w2 ⟨rfl, hb2⟩
        go_wp2
        go_ret
        exact ⟨by rw [R.out]; rfl, (hb.alloc _).trans hb2⟩
      | false =>
        have H := Lib.hid (any_next spaceT (inI r) 4 (by decide) hall.out hin)
        have HH := fun W => has_any 5760 5760 r W
        rw [hin] at HH
        clear hin
        go_wp2_with fail
        refine (HH _).mono ?_
        rintro e w2 ⟨rfl, hb2⟩
        go_wp2
        go_roundw
        case rel => exact ⟨4 + 1, by omega, by go_num, (hb.alloc _).trans hb2, H⟩
        case measure => simp [intOf]
    | 5, hk =>
      have ix : ∀ w, (Instr.index 266 (.agg #[.int .i32 9, .int .i32 10, .int .i32 12, .int .i32 13, .int .i32 32, .int .i32 32, .int .i32 160, .int .i32 160, .int .i32 5760, .int .i32 5760, .int .i32 8192, .int .i32 8202, .int .i32 8239, .int .i32 8239, .int .i32 8287, .int .i32 8287, .int .i32 12288, .int .i32 12288]) (.int .i64 5)).run Tryz.prog w = .ok (.agg #[.int .i32 8192, .int .i32 8202]) w := fun _ => by kernel_rfl
      cases hin : inI r (8192, 8202) with
      | true =>
        have R := Lib.hid (show spaceI r = true from any_hit spaceT (inI r) 5 (by decide) hin)
        have HH := fun W => has_any 8192 8202 r W
        rw [hin] at HH
        clear hin
        go_wp2_with fail
        refine (HH _).mono ?_
        rintro e w2 ⟨rfl, hb2⟩
        go_wp2
        go_ret
        exact ⟨by rw [R.out]; rfl, (hb.alloc _).trans hb2⟩
      | false =>
        have H := Lib.hid (any_next spaceT (inI r) 5 (by decide) hall.out hin)
        have HH := fun W => has_any 8192 8202 r W
        rw [hin] at HH
        clear hin
        go_wp2_with fail
        refine (HH _).mono ?_
        rintro e w2 ⟨rfl, hb2⟩
        go_wp2
        go_roundw
        case rel => exact ⟨5 + 1, by omega, by go_num, (hb.alloc _).trans hb2, H⟩
        case measure => simp [intOf]
    | 6, hk =>
      have ix : ∀ w, (Instr.index 266 (.agg #[.int .i32 9, .int .i32 10, .int .i32 12, .int .i32 13, .int .i32 32, .int .i32 32, .int .i32 160, .int .i32 160, .int .i32 5760, .int .i32 5760, .int .i32 8192, .int .i32 8202, .int .i32 8239, .int .i32 8239, .int .i32 8287, .int .i32 8287, .int .i32 12288, .int .i32 12288]) (.int .i64 6)).run Tryz.prog w = .ok (.agg #[.int .i32 8239, .int .i32 8239]) w := fun _ => by kernel_rfl
      cases hin : inI r (8239, 8239) with
      | true =>
        have R := Lib.hid (show spaceI r = true from any_hit spaceT (inI r) 6 (by decide) hin)
        have HH := fun W => has_any 8239 8239 r W
        rw [hin] at HH
        clear hin
        go_wp2_with fail
        refine (HH _).mono ?_
        rintro e w2 ⟨rfl, hb2⟩
        go_wp2
        go_ret
        exact ⟨by rw [R.out]; rfl, (hb.alloc _).trans hb2⟩
      | false =>
        have H := Lib.hid (any_next spaceT (inI r) 6 (by decide) hall.out hin)
        have HH := fun W => has_any 8239 8239 r W
        rw [hin] at HH
        clear hin
        go_wp2_with fail
        refine (HH _).mono ?_
        rintro e w2 ⟨rfl, hb2⟩
        go_wp2
        go_roundw
        case rel => exact ⟨6 + 1, by omega, by go_num, (hb.alloc _).trans hb2, H⟩
        case measure => simp [intOf]
    | 7, hk =>
      have ix : ∀ w, (Instr.index 266 (.agg #[.int .i32 9, .int .i32 10, .int .i32 12, .int .i32 13, .int .i32 32, .int .i32 32, .int .i32 160, .int .i32 160, .int .i32 5760, .int .i32 5760, .int .i32 8192, .int .i32 8202, .int .i32 8239, .int .i32 8239, .int .i32 8287, .int .i32 8287, .int .i32 12288, .int .i32 12288]) (.int .i64 7)).run Tryz.prog w = .ok (.agg #[.int .i32 8287, .int .i32 8287]) w := fun _ => by kernel_rfl
      cases hin : inI r (8287, 8287) with
      | true =>
        have R := Lib.hid (show spaceI r = true from any_hit spaceT (inI r) 7 (by decide) hin)
        have HH := fun W => has_any 8287 8287 r W
        rw [hin] at HH
        clear hin
        go_wp2_with fail
        refine (HH _).mono ?_
        rintro e w2 ⟨rfl, hb2⟩
        go_wp2
        go_ret
        exact ⟨by rw [R.out]; rfl, (hb.alloc _).trans hb2⟩
      | false =>
        have H := Lib.hid (any_next spaceT (inI r) 7 (by decide) hall.out hin)
        have HH := fun W => has_any 8287 8287 r W
        rw [hin] at HH
        clear hin
        go_wp2_with fail
        refine (HH _).mono ?_
        rintro e w2 ⟨rfl, hb2⟩
        go_wp2
        go_roundw
        case rel => exact ⟨7 + 1, by omega, by go_num, (hb.alloc _).trans hb2, H⟩
        case measure => simp [intOf]
    | 8, hk =>
      have ix : ∀ w, (Instr.index 266 (.agg #[.int .i32 9, .int .i32 10, .int .i32 12, .int .i32 13, .int .i32 32, .int .i32 32, .int .i32 160, .int .i32 160, .int .i32 5760, .int .i32 5760, .int .i32 8192, .int .i32 8202, .int .i32 8239, .int .i32 8239, .int .i32 8287, .int .i32 8287, .int .i32 12288, .int .i32 12288]) (.int .i64 8)).run Tryz.prog w = .ok (.agg #[.int .i32 12288, .int .i32 12288]) w := fun _ => by kernel_rfl
      cases hin : inI r (12288, 12288) with
      | true =>
        have R := Lib.hid (show spaceI r = true from any_hit spaceT (inI r) 8 (by decide) hin)
        have HH := fun W => has_any 12288 12288 r W
        rw [hin] at HH
        clear hin
        go_wp2_with fail
        refine (HH _).mono ?_
        rintro e w2 ⟨rfl, hb2⟩
        go_wp2
        go_ret
        exact ⟨by rw [R.out]; rfl, (hb.alloc _).trans hb2⟩
      | false =>
        have H := Lib.hid (any_next spaceT (inI r) 8 (by decide) hall.out hin)
        have HH := fun W => has_any 12288 12288 r W
        rw [hin] at HH
        clear hin
        go_wp2_with fail
        refine (HH _).mono ?_
        rintro e w2 ⟨rfl, hb2⟩
        go_wp2
        go_roundw
        case rel => exact ⟨8 + 1, by omega, by go_num, (hb.alloc _).trans hb2, H⟩
        case measure => simp [intOf]
    | 9, hk =>
      have R := Lib.hid (show spaceI r = false from hall.out)
      go_wp2
      go_ret
      exact ⟨by rw [R.out]; rfl, hb⟩
    | k + 10, hk => omega

/-! ### escape.Sign -/
def signB (b : UInt8) : Bool := decide ((b.toNat : Int) < 128) && punctI (b.toNat : Int)
set_option maxHeartbeats 1000000 in
theorem sign_any (b : UInt8) (w : World) :
    Calls Tryz.prog 65 #[.int .u8 (b.toNat : Int)] w fun e w' => e = .returned (.bool (signB b)) ∧ Bl w w' := by
  unfold signB
  have hlt : (b.toNat : Int) < 256 := by have := b.toNat_lt; omega
  obtain ⟨n, hn⟩ : ∃ n : Int, (b.toNat : Int) = n := ⟨_, rfl⟩
  have h0 : 0 ≤ n := by omega
  rw [hn] at hlt ⊢
  clear hn
  have HP := fun W => punct_any n W
  obtain ⟨p, hp⟩ : ∃ p, punctI n = p := ⟨_, rfl⟩
  rw [hp] at HP ⊢
  clear hp
  cases hd : decide (n < 128) with
  | true =>
    go_enter Tryz.func65, Tryz.ntmps65
    go_wp2_with fail
    refine (HP _).mono ?_
    rintro e w2 ⟨rfl, hb2⟩
    go_wp2
    go_ret
    exact ⟨rfl, hb2⟩
  | false =>
    go_enter Tryz.func65, Tryz.ntmps65
    go_wp2
    go_ret
    exact ⟨rfl, Bl.refl _⟩

/-! ### delim's flanks -/
def whiteR (r : Int) : Bool := (r == 0) || spaceI r
set_option maxHeartbeats 1000000 in
theorem dwhite_any (r : Int) (w : World) :
    Calls Tryz.prog 177 #[.int .i32 r] w fun e w' => e = .returned (.bool (whiteR r)) ∧ Bl w w' := by
  unfold whiteR
  have HP := fun W => space_any r W
  obtain ⟨p, hp⟩ : ∃ p, spaceI r = p := ⟨_, rfl⟩
  rw [hp] at HP ⊢
  clear hp
  cases hd : (r == 0) with
  | false =>
    go_enter Tryz.func177, Tryz.ntmps177
    go_wp2_with fail
    refine (HP _).mono ?_
    rintro e w2 ⟨rfl, hb2⟩
    go_wp2
    go_ret
    exact ⟨rfl, hb2⟩
  | true =>
    go_enter Tryz.func177, Tryz.ntmps177
    go_wp2
    go_ret
    exact ⟨rfl, Bl.refl _⟩
def leansR (a b : Int) : Bool := !whiteR a && (!punctI a || whiteR b || punctI b)
set_option maxHeartbeats 1000000 in
theorem leans_any (a b : Int) (w : World) :
    Calls Tryz.prog 114 #[.int .i32 a, .int .i32 b] w fun e w' => e = .returned (.bool (leansR a b)) ∧ Bl w w' := by
  unfold leansR
  have H1 := fun W => dwhite_any a W
  have H2 := fun W => punct_any a W
  have H3 := fun W => dwhite_any b W
  have H4 := fun W => punct_any b W
  obtain ⟨p1, h1⟩ : ∃ p, whiteR a = p := ⟨_, rfl⟩
  obtain ⟨p2, h2⟩ : ∃ p, punctI a = p := ⟨_, rfl⟩
  obtain ⟨p3, h3⟩ : ∃ p, whiteR b = p := ⟨_, rfl⟩
  obtain ⟨p4, h4⟩ : ∃ p, punctI b = p := ⟨_, rfl⟩
  rw [h1] at H1
  rw [h2] at H2
  rw [h3] at H3
  rw [h4] at H4
  rw [h1, h2, h3, h4]
  clear h1 h2 h3 h4
  cases p1 with
  | true =>
    go_enter Tryz.func114, Tryz.ntmps114
    go_wp2_with fail
    refine (H1 _).mono ?_
    rintro e w1 ⟨rfl, hb1⟩
    go_wp2
    go_ret
    exact ⟨rfl, hb1⟩
  | false =>
    cases p2 with
    | false =>
      go_enter Tryz.func114, Tryz.ntmps114
      go_wp2_with fail
      refine (H1 _).mono ?_
      rintro e w1 ⟨rfl, hb1⟩
      go_wp2_with fail
      refine (H2 _).mono ?_
      rintro e w2 ⟨rfl, hb2⟩
      go_wp2
      go_ret
      exact ⟨rfl, hb1.trans hb2⟩
    | true =>
      cases p3 with
      | true =>
        go_enter Tryz.func114, Tryz.ntmps114
        go_wp2_with fail
        refine (H1 _).mono ?_
        rintro e w1 ⟨rfl, hb1⟩
        go_wp2_with fail
        refine (H2 _).mono ?_
        rintro e w2 ⟨rfl, hb2⟩
        go_wp2_with fail
        refine (H3 _).mono ?_
        rintro e w3 ⟨rfl, hb3⟩
        go_wp2
        go_ret
        exact ⟨rfl, (hb1.trans hb2).trans hb3⟩
      | false =>
        go_enter Tryz.func114, Tryz.ntmps114
        go_wp2_with fail
        refine (H1 _).mono ?_
        rintro e w1 ⟨rfl, hb1⟩
        go_wp2_with fail
        refine (H2 _).mono ?_
        rintro e w2 ⟨rfl, hb2⟩
        go_wp2_with fail
        refine (H3 _).mono ?_
        rintro e w3 ⟨rfl, hb3⟩
        go_wp2_with fail
        refine (H4 _).mono ?_
        rintro e w4 ⟨rfl, hb4⟩
        go_wp2
        go_ret
        exact ⟨rfl, ((hb1.trans hb2).trans hb3).trans hb4⟩
def flankR (before after : Int) (c : Int) : Bool × Bool :=
  if c != 95 then (leansR after before, leansR before after)
  else (leansR after before && (!leansR before after || punctI before), leansR before after && (!leansR after before || punctI after))

end Go.Proofs.YtjocbifjmchbcaaGreatDoor
/- Contracts of strings.Builder's writers at this program, laid in plain words. -/
namespace Go.Proofs
open Go.Shelf
def Tryz.lays240_ren : Go.Shelf.Ren := ⟨fun | 240 => 102 | 276 => 155 | n => n, fun | 0 => 0 | 4 => 4 | 9 => 9 | 20 => 20 | 37 => 37 | 70 => 54 | 72 => 56 | 164 => 195 | n => n, fun | n => n⟩
theorem Tryz.lays240 : Go.Proofs.Lays.n240 Tryz.prog Tryz.lays240_ren := {
  mixed := by kernel_rfl
  f240 := Tryz.func102.trans (congrArg some (by kernel_rfl))
  f276 := Tryz.func155.trans (congrArg some (by kernel_rfl))
  t0 := Tryz.underlying0
  a0 := Tryz.isAgg0
  z0 := Tryz.sizeOf0
  v0 := Tryz.zeroValue0
  t4 := Tryz.underlying4
  a4 := Tryz.isAgg4
  z4 := Tryz.sizeOf4
  v4 := Tryz.zeroValue4
  t9 := Tryz.underlying9
  a9 := Tryz.isAgg9
  z9 := Tryz.sizeOf9
  v9 := Tryz.zeroValue9
  t20 := Tryz.underlying20
  a20 := Tryz.isAgg20
  z20 := Tryz.sizeOf20
  v20 := Tryz.zeroValue20
  t70 := Tryz.underlying54
  a70 := Tryz.isAgg54
  z70 := Tryz.sizeOf54
  v70 := Tryz.zeroValue54
  t72 := Tryz.underlying56
  a72 := Tryz.isAgg56
  z72 := Tryz.sizeOf56
  v72 := Tryz.zeroValue56
  t164 := Tryz.underlying195
  a164 := Tryz.isAgg195
  z164 := Tryz.sizeOf195
  v164 := Tryz.zeroValue195 }
theorem Tryz.Builder_X72_240 : Builder.X72 Tryz.prog Tryz.lays240_ren := {
  sizeBuilder := by kernel_rfl
  liesBuilder := by kernel_rfl }
def Tryz.lays166_ren : Go.Shelf.Ren := ⟨fun | 166 => 59 | 240 => 102 | 276 => 155 | n => n, fun | 0 => 0 | 3 => 3 | 4 => 4 | 5 => 5 | 9 => 9 | 20 => 20 | 37 => 37 | 70 => 54 | 72 => 56 | 75 => 96 | 80 => 58 | 164 => 195 | n => n, fun | n => n⟩
theorem Tryz.lays166 : Go.Proofs.Lays.n166 Tryz.prog Tryz.lays166_ren := {
  mixed := by kernel_rfl
  f166 := Tryz.func59.trans (congrArg some (by kernel_rfl))
  f240 := Tryz.func102.trans (congrArg some (by kernel_rfl))
  f276 := Tryz.func155.trans (congrArg some (by kernel_rfl))
  t0 := Tryz.underlying0
  a0 := Tryz.isAgg0
  z0 := Tryz.sizeOf0
  v0 := Tryz.zeroValue0
  t3 := Tryz.underlying3
  a3 := Tryz.isAgg3
  z3 := Tryz.sizeOf3
  v3 := Tryz.zeroValue3
  t4 := Tryz.underlying4
  a4 := Tryz.isAgg4
  z4 := Tryz.sizeOf4
  v4 := Tryz.zeroValue4
  t9 := Tryz.underlying9
  a9 := Tryz.isAgg9
  z9 := Tryz.sizeOf9
  v9 := Tryz.zeroValue9
  t20 := Tryz.underlying20
  a20 := Tryz.isAgg20
  z20 := Tryz.sizeOf20
  v20 := Tryz.zeroValue20
  t37 := Tryz.underlying37
  a37 := Tryz.isAgg37
  z37 := Tryz.sizeOf37
  v37 := Tryz.zeroValue37
  t70 := Tryz.underlying54
  a70 := Tryz.isAgg54
  z70 := Tryz.sizeOf54
  v70 := Tryz.zeroValue54
  t72 := Tryz.underlying56
  a72 := Tryz.isAgg56
  z72 := Tryz.sizeOf56
  v72 := Tryz.zeroValue56
  t75 := Tryz.underlying96
  a75 := Tryz.isAgg96
  z75 := Tryz.sizeOf96
  v75 := Tryz.zeroValue96
  t164 := Tryz.underlying195
  a164 := Tryz.isAgg195
  z164 := Tryz.sizeOf195
  v164 := Tryz.zeroValue195 }
theorem Tryz.Builder_Extra_166 : Builder.Extra Tryz.prog Tryz.lays166_ren := {
  sizeBuilder := by kernel_rfl
  liesBuilder := by kernel_rfl
  t5 := Tryz.underlying5
  a5 := Tryz.isAgg5
  z5 := Tryz.sizeOf5
  v5 := Tryz.zeroValue5
  infoByte := by kernel_rfl
  cellsByte := by kernel_rfl
  sizeByte := by kernel_rfl
  neB5 := by decide }
def Tryz.lays167_ren : Go.Shelf.Ren := ⟨fun | 167 => 60 | 240 => 102 | 276 => 155 | n => n, fun | 0 => 0 | 4 => 4 | 5 => 5 | 9 => 9 | 20 => 20 | 37 => 37 | 70 => 54 | 72 => 56 | 75 => 96 | 80 => 58 | 164 => 195 | n => n, fun | n => n⟩
theorem Tryz.lays167 : Go.Proofs.Lays.n167 Tryz.prog Tryz.lays167_ren := {
  mixed := by kernel_rfl
  f167 := Tryz.func60.trans (congrArg some (by kernel_rfl))
  f240 := Tryz.func102.trans (congrArg some (by kernel_rfl))
  f276 := Tryz.func155.trans (congrArg some (by kernel_rfl))
  t0 := Tryz.underlying0
  a0 := Tryz.isAgg0
  z0 := Tryz.sizeOf0
  v0 := Tryz.zeroValue0
  t4 := Tryz.underlying4
  a4 := Tryz.isAgg4
  z4 := Tryz.sizeOf4
  v4 := Tryz.zeroValue4
  t5 := Tryz.underlying5
  a5 := Tryz.isAgg5
  z5 := Tryz.sizeOf5
  v5 := Tryz.zeroValue5
  t9 := Tryz.underlying9
  a9 := Tryz.isAgg9
  z9 := Tryz.sizeOf9
  v9 := Tryz.zeroValue9
  t20 := Tryz.underlying20
  a20 := Tryz.isAgg20
  z20 := Tryz.sizeOf20
  v20 := Tryz.zeroValue20
  t37 := Tryz.underlying37
  a37 := Tryz.isAgg37
  z37 := Tryz.sizeOf37
  v37 := Tryz.zeroValue37
  t70 := Tryz.underlying54
  a70 := Tryz.isAgg54
  z70 := Tryz.sizeOf54
  v70 := Tryz.zeroValue54
  t72 := Tryz.underlying56
  a72 := Tryz.isAgg56
  z72 := Tryz.sizeOf56
  v72 := Tryz.zeroValue56
  t75 := Tryz.underlying96
  a75 := Tryz.isAgg96
  z75 := Tryz.sizeOf96
  v75 := Tryz.zeroValue96
  t164 := Tryz.underlying195
  a164 := Tryz.isAgg195
  z164 := Tryz.sizeOf195
  v164 := Tryz.zeroValue195 }
theorem Tryz.Builder_Extra_167 : Builder.Extra Tryz.prog Tryz.lays167_ren := {
  sizeBuilder := by kernel_rfl
  liesBuilder := by kernel_rfl
  t5 := Tryz.underlying5
  a5 := Tryz.isAgg5
  z5 := Tryz.sizeOf5
  v5 := Tryz.zeroValue5
  infoByte := by kernel_rfl
  cellsByte := by kernel_rfl
  sizeByte := by kernel_rfl
  neB5 := by decide }
def Tryz.lays168_ren : Go.Shelf.Ren := ⟨fun | 168 => 268 | 240 => 102 | 242 => 278 | 276 => 155 | 278 => 284 | n => n, fun | 0 => 0 | 3 => 3 | 4 => 4 | 5 => 5 | 9 => 9 | 20 => 20 | 21 => 21 | 37 => 37 | 46 => 184 | 51 => 228 | 70 => 54 | 72 => 56 | 75 => 96 | 80 => 58 | 164 => 195 | n => n, fun | n => n⟩
theorem Tryz.lays168 : Go.Proofs.Lays.n168 Tryz.prog Tryz.lays168_ren := {
  mixed := by kernel_rfl
  f168 := Tryz.func268.trans (congrArg some (by kernel_rfl))
  f240 := Tryz.func102.trans (congrArg some (by kernel_rfl))
  f242 := Tryz.func278.trans (congrArg some (by kernel_rfl))
  f276 := Tryz.func155.trans (congrArg some (by kernel_rfl))
  f278 := Tryz.func284.trans (congrArg some (by kernel_rfl))
  t0 := Tryz.underlying0
  a0 := Tryz.isAgg0
  z0 := Tryz.sizeOf0
  v0 := Tryz.zeroValue0
  t3 := Tryz.underlying3
  a3 := Tryz.isAgg3
  z3 := Tryz.sizeOf3
  v3 := Tryz.zeroValue3
  t4 := Tryz.underlying4
  a4 := Tryz.isAgg4
  z4 := Tryz.sizeOf4
  v4 := Tryz.zeroValue4
  t5 := Tryz.underlying5
  a5 := Tryz.isAgg5
  z5 := Tryz.sizeOf5
  v5 := Tryz.zeroValue5
  t9 := Tryz.underlying9
  a9 := Tryz.isAgg9
  z9 := Tryz.sizeOf9
  v9 := Tryz.zeroValue9
  t20 := Tryz.underlying20
  a20 := Tryz.isAgg20
  z20 := Tryz.sizeOf20
  v20 := Tryz.zeroValue20
  t21 := Tryz.underlying21
  a21 := Tryz.isAgg21
  z21 := Tryz.sizeOf21
  v21 := Tryz.zeroValue21
  t37 := Tryz.underlying37
  a37 := Tryz.isAgg37
  z37 := Tryz.sizeOf37
  v37 := Tryz.zeroValue37
  t46 := Tryz.underlying184
  a46 := Tryz.isAgg184
  z46 := Tryz.sizeOf184
  v46 := Tryz.zeroValue184
  t51 := Tryz.underlying228
  a51 := Tryz.isAgg228
  z51 := Tryz.sizeOf228
  v51 := Tryz.zeroValue228
  t70 := Tryz.underlying54
  a70 := Tryz.isAgg54
  z70 := Tryz.sizeOf54
  v70 := Tryz.zeroValue54
  t72 := Tryz.underlying56
  a72 := Tryz.isAgg56
  z72 := Tryz.sizeOf56
  v72 := Tryz.zeroValue56
  t75 := Tryz.underlying96
  a75 := Tryz.isAgg96
  z75 := Tryz.sizeOf96
  v75 := Tryz.zeroValue96
  t164 := Tryz.underlying195
  a164 := Tryz.isAgg195
  z164 := Tryz.sizeOf195
  v164 := Tryz.zeroValue195 }
theorem Tryz.Builder_Extra_168 : Builder.Extra Tryz.prog Tryz.lays168_ren := {
  sizeBuilder := by kernel_rfl
  liesBuilder := by kernel_rfl
  t5 := Tryz.underlying5
  a5 := Tryz.isAgg5
  z5 := Tryz.sizeOf5
  v5 := Tryz.zeroValue5
  infoByte := by kernel_rfl
  cellsByte := by kernel_rfl
  sizeByte := by kernel_rfl
  neB5 := by decide }
open Go.RowKit in
theorem Tryz.Builder_copyCheck_k (B b : Nat) (bs : List Value) (w : World) (h : Lib.IsBuilderF 56 5 B b bs w) :
    Calls Tryz.prog 102 #[.pointer (some ⟨b, 0, none⟩)] w fun e w' => e = .returned (.tuple #[]) ∧ (Lib.BuilderAtF 56 5 B b (.pointer (some ⟨b, 0, none⟩)) bs w' ∧ Below B w w' ∧ Lib.OthersKept 5 (some b) w w') := Any.Builder_copyCheck_k Tryz.lays240 Tryz.Builder_X72_240 B b bs w h
open Go.RowKit in
theorem Tryz.Builder_WriteByte_k (B b : Nat) (bs : List Value) (c : Int) (w : World) (h : Lib.IsBuilderF 56 5 B b bs w) (hlen : bs.length + 1 ≤ 140737488355328) (hBw : B ≤ w.heap.size) :
    Calls Tryz.prog 60 #[.pointer (some ⟨b, 0, none⟩), .int .u8 c] w fun e w' => e = .returned .nilIface ∧ (Lib.BuilderAtF 56 5 B b (.pointer (some ⟨b, 0, none⟩)) (bs ++ [.int .u8 c]) w' ∧ Below B w w' ∧ Lib.OthersKept 5 (some b) w w') := Any.Builder_WriteByte_k Tryz.lays167 Tryz.Builder_Extra_167 B b bs c w h hlen hBw
open Go.RowKit in
theorem Tryz.Builder_WriteString_k (B b : Nat) (bs : List Value) (s : ByteArray) (w : World) (h : Lib.IsBuilderF 56 5 B b bs w) (hlen : bs.length + s.size ≤ 140737488355328) (hBw : B ≤ w.heap.size) :
    Calls Tryz.prog 59 #[.pointer (some ⟨b, 0, none⟩), .string s] w fun e w' => e = .returned (.tuple #[.int .i64 s.size, .nilIface]) ∧ (Lib.BuilderAtF 56 5 B b (.pointer (some ⟨b, 0, none⟩)) (bs ++ Lib.strCells s) w' ∧ Below B w w' ∧ Lib.OthersKept 5 (some b) w w') := Any.Builder_WriteString_k Tryz.lays166 Tryz.Builder_Extra_166 B b bs s w h hlen hBw
open Go.RowKit in
theorem Tryz.Builder_WriteRune_k (B b : Nat) (bs : List Value) (r : Int) (hr0 : -2147483648 ≤ r) (hr1 : r ≤ 2147483647) (w : World) (h : Lib.IsBuilderF 56 5 B b bs w) (hlen : bs.length + 4 ≤ 140737488355328) (hBw : B ≤ w.heap.size) :
    Calls Tryz.prog 268 #[.pointer (some ⟨b, 0, none⟩), .int .i32 r] w fun e w' => e = .returned (.tuple #[.int .i64 (Lib.runeCells r).length, .nilIface]) ∧ (Lib.BuilderAtF 56 5 B b (.pointer (some ⟨b, 0, none⟩)) (bs ++ Lib.runeCells r) w' ∧ Below B w w' ∧ Lib.OthersKept 5 (some b) w w') := Any.Builder_WriteRune_k Tryz.lays168 Tryz.Builder_Extra_168 B b bs r hr0 hr1 w h hlen hBw
def Tryz.lays7n32_ren : Go.Shelf.Ren := ⟨fun | 32 => 180 | 49 => 239 | n => n, fun | 0 => 0 | 3 => 3 | 4 => 4 | 5 => 5 | 21 => 21 | 25 => 184 | 30 => 37 | 33 => 154 | 66 => 252 | 68 => 254 | 69 => 255 | n => n, fun | 2 => 0 | 3 => 1 | n => n⟩
theorem Tryz.lays7n32 : Go.Proofs.Lays7.n32 Tryz.prog Tryz.lays7n32_ren := {
  mixed := by kernel_rfl
  f32 := Tryz.func180.trans (congrArg some (by kernel_rfl))
  f49 := Tryz.func239.trans (congrArg some (by kernel_rfl))
  t0 := Tryz.underlying0
  a0 := Tryz.isAgg0
  z0 := Tryz.sizeOf0
  v0 := Tryz.zeroValue0
  i0 := by kernel_rfl
  t3 := Tryz.underlying3
  a3 := Tryz.isAgg3
  z3 := Tryz.sizeOf3
  v3 := Tryz.zeroValue3
  i3 := by kernel_rfl
  t4 := Tryz.underlying4
  a4 := Tryz.isAgg4
  z4 := Tryz.sizeOf4
  v4 := Tryz.zeroValue4
  i4 := by kernel_rfl
  t5 := Tryz.underlying5
  a5 := Tryz.isAgg5
  z5 := Tryz.sizeOf5
  v5 := Tryz.zeroValue5
  i5 := by kernel_rfl
  t21 := Tryz.underlying21
  a21 := Tryz.isAgg21
  z21 := Tryz.sizeOf21
  v21 := Tryz.zeroValue21
  i21 := by kernel_rfl
  t25 := Tryz.underlying184
  a25 := Tryz.isAgg184
  z25 := Tryz.sizeOf184
  v25 := Tryz.zeroValue184
  i25 := by kernel_rfl
  t30 := Tryz.underlying37
  a30 := Tryz.isAgg37
  z30 := Tryz.sizeOf37
  v30 := Tryz.zeroValue37
  i30 := by kernel_rfl
  t33 := Tryz.underlying154
  a33 := Tryz.isAgg154
  z33 := Tryz.sizeOf154
  v33 := Tryz.zeroValue154
  i33 := by kernel_rfl
  t66 := Tryz.underlying252
  a66 := Tryz.isAgg252
  z66 := Tryz.sizeOf252
  t68 := Tryz.underlying254
  a68 := Tryz.isAgg254
  z68 := Tryz.sizeOf254
  v68 := Tryz.zeroValue254
  i68 := by kernel_rfl
  t69 := Tryz.underlying255
  a69 := Tryz.isAgg255
  z69 := Tryz.sizeOf255
  v69 := Tryz.zeroValue255
  i69 := by kernel_rfl
  g2 := by kernel_rfl
  g3 := by kernel_rfl }
open Go.RowKit in
theorem Tryz.utf8_DecodeRune (s : ByteArray) (b off cap : Nat) (w : World) (hT : Lib.Utf8Tabs 0 1 w) (hp : ∀ j, j < s.size → w.cell? ⟨b, off + j, none⟩ = some (.int .u8 (s.get! j).toNat)) :
    Calls Tryz.prog 180 #[.slice (some ⟨b, off, none⟩) s.size cap] w fun e w' => e = .returned (.tuple #[.int .i32 (Lib.decodeGo s).1, .int .i64 (Lib.decodeGo s).2]) ∧ Below w.heap.size w w' := Any7.utf8_DecodeRune Tryz.lays7n32 s b off cap w hT hp
open Go.RowKit in
theorem Tryz.strings_TrimLeft_set (s cutset : ByteArray) (w : World) (hcs : cutset.size < 4294967281) (hascii : ∀ (j : Nat) b, cutset.data.toList[j]? = some b → b.toNat < 128) :
    Calls Tryz.prog 242 #[.string s, .string cutset] w fun e w' => e = .returned (.string ⟨(Lib.trimLeftS s.data.toList cutset.data.toList).toArray⟩) ∧ Below w.heap.size w w' := Any.strings_TrimLeft_laid Tryz.lays161 (by kernel_rfl) s cutset w hcs hascii
open Go.RowKit in
theorem Tryz.strings_Trim_set (s cutset : ByteArray) (w : World) (hs : s.size ≤ 9223372036854775807) (hcs : cutset.size < 4294967281) (hascii : ∀ (j : Nat) b, cutset.data.toList[j]? = some b → b.toNat < 128) :
    Calls Tryz.prog 164 #[.string s, .string cutset] w fun e w' => e = .returned (.string ⟨(Lib.trimS s.data.toList cutset.data.toList).toArray⟩) ∧ Below w.heap.size w w' := Any.strings_Trim_laid Tryz.lays160 (by kernel_rfl) s cutset w hs hcs hascii
open Go.RowKit in
theorem Tryz.strings_TrimRight_set (s cutset : ByteArray) (w : World) (hs : s.size ≤ 9223372036854775807) (hcs : cutset.size < 4294967281) (hascii : ∀ (j : Nat) b, cutset.data.toList[j]? = some b → b.toNat < 128) :
    Calls Tryz.prog 80 #[.string s, .string cutset] w fun e w' => e = .returned (.string ⟨(Lib.trimRightS s.data.toList cutset.data.toList).toArray⟩) ∧ Below w.heap.size w w' := Any.strings_TrimRight_laid Tryz.lays162 (by kernel_rfl) s cutset w hs hcs hascii
end Go.Proofs
/- The contracts of strings.Builder's Write and of text.Clean. -/
namespace Go.Proofs.YtjocbifjmchbcaaGreatDoor
open Go.RowKit

set_option maxHeartbeats 2000000 in
set_option maxRecDepth 100000 in
theorem write_any (B b : Nat) (bs : List Value) (ad : Addr) (n c : Nat) (cs : List Value) (w : World) (h : Lib.IsBuilderF 56 5 B b bs w) (hl : cs.length = n) (hlt0 : ad.block < B)
    (hsrc : ∀ j u, cs[j]? = some u → w.cell? (ad.add j) = some u) (h1c : ∀ u ∈ cs, u.oneCell' = true) (hlen : bs.length + n ≤ 140737488355328) (hBw : B ≤ w.heap.size) :
    Calls Tryz.prog 181 #[.pointer (some ⟨b, 0, none⟩), .slice (some ad) n c] w fun e w' => e = .returned (.tuple #[.int .i64 n, .nilIface]) ∧ (Lib.BuilderAtF 56 5 B b (.pointer (some ⟨b, 0, none⟩)) (bs ++ cs) w' ∧ Below B w w' ∧ Lib.OthersKept 5 (some b) w w') := by
  obtain ⟨i0, hi, hz0, hz1, hz2⟩ := info_parts (show (Tryz.prog.info? 5).map (fun i => (i.zero, i.size, i.bytes)) = some (some (.int .u8 0), 1, 1) by kernel_rfl)
  go_enter Tryz.func181, Tryz.ntmps181
  go_wp2_with fail
  refine (Tryz.Builder_copyCheck_k B b bs _ h).mono ?_
  rintro e w1 ⟨rfl, h1, hb1, hk1⟩
  obtain ⟨hB, v, hbk, hown, hne⟩ := h1
  have hsrc1 : ∀ j u, cs[j]? = some u → w1.cell? (ad.add j) = some u := fun j u hj => (hb1.cell (by unfold Addr.add; split <;> exact hlt0)).trans (hsrc j u hj)
  have c0 : w1.cell? ⟨b, 0, none⟩ = some (.pointer (some ⟨b, 0, none⟩)) := by rw [Lib.cell_of_heap hbk]; rfl
  have c1 : w1.cell? ⟨b, 1, none⟩ = some v := by rw [Lib.cell_of_heap hbk]; rfl
  go_wp2_with (at_builtin; refine wpList_append_ownF _ rfl _ _ 37 rfl B 5 i0 (.int .u8 0) 1 1 Tryz.underlying37 hi hz0 hz1 hz2 rfl (by decide) _ _ _ rfl hown ad n c cs rfl (by omega) hsrc1 h1c ?c3 ?c4 ?c5 ?_)
  case c3 => unfold maxLen; omega
  case c4 => omega
  case c5 => have := hb1.size; omega
  intro v' w2 hown' hgrow _
  have hlt : b < w1.heap.size := by
    rcases Nat.lt_or_ge b w1.heap.size with h' | h'
    · exact h'
    · simp [Array.getElem?_eq_none h'] at hbk
  have hb2 : w2.heap[b]? = some (.cells #[.pointer (some ⟨b, 0, none⟩), v] 56 (0, 0)) := by
    rw [hgrow.block b hlt (fun e => hne e.symm)]
    exact hbk
  have d0 : w2.cell? ⟨b, 0, none⟩ = some (.pointer (some ⟨b, 0, none⟩)) := by rw [Lib.cell_of_heap hb2]; rfl
  have d1 : w2.cell? ⟨b, 1, none⟩ = some v := by rw [Lib.cell_of_heap hb2]; rfl
  have f1 : w2.frozen? ⟨b, 1, none⟩ = false := Lib.frozen_of_heap hb2 1
  obtain ⟨ao, n', cap, rfl⟩ : ∃ ao n' cap, v' = .slice ao n' cap := by
    rcases hown'.2 with ⟨hv, _⟩ | ⟨g, cap, cur, fz, hv, _⟩
    · exact ⟨_, _, _, hv⟩
    · exact ⟨_, _, _, hv⟩
  go_wp2
  go_ret2
  refine ⟨rfl, ?_, ?_, (hk1.grown hgrow (Lib.ownsRowF_kind hown)).setCell ⟨b, 1, none⟩ rfl _⟩
  · exact Lib.BuilderAtF.put (T := 56) (e := 5) hB hb2 (bs' := bs ++ cs) (by simpa [hl] using hown') (by decide)
  · exact (hb1.grown hgrow (by have := hb1.size; omega) (fun k hk => (hown.lt k hk).1)).setCell (p := ⟨b, 1, none⟩) hB _

end Go.Proofs.YtjocbifjmchbcaaGreatDoor
/- strings.Builder by one predicate: what a builder holds that a call has made. -/
namespace Go.Proofs.YtjocbifjmchbcaaGreatDoor
open Go.RowKit

/-- Block b is a builder that holds l; it was made behind w0, of which nothing has turned. -/
structure Bd (w0 w : World) (b : Nat) (l : List UInt8) : Prop where
  isb : Lib.IsBuilderF 56 5 w0.heap.size b (Lib.byteCells l) w
  bl : Bl w0 w
theorem Bd.new {w0 w : World} (h : Bl w0 w) : Bd w0 (w.alloc (.cells #[.pointer none, .slice none 0 0] 56)) w.heap.size [] :=
  ⟨.inl ⟨h.size, .slice none 0 0, alloc_new _ _, World.ownsRowF_nil _ _ _ _, by simp [Value.ownBlock]⟩, h.alloc _⟩
theorem Bd.more {w0 w w' : World} {b : Nat} {l : List UInt8} (h : Bd w0 w b l) (k : Bl w w') : Bd w0 w' b l := by
  have g : ∀ {p : Value}, Lib.BuilderAtF 56 5 w0.heap.size b p (Lib.byteCells l) w → Lib.BuilderAtF 56 5 w0.heap.size b p (Lib.byteCells l) w' := by
    intro p hq
    have hlt := hq.lt
    obtain ⟨hB, v, hb, hown, hne⟩ := hq
    refine ⟨hB, v, (k.block hlt).trans hb, ?_, hne⟩
    exact hown.kept (row := none) ⟨k.out.os, k.out.tape, k.out.output, k.size, fun i hi _ => k.block hi⟩ (by cases hv : v.ownBlock <;> simp)
  exact ⟨h.isb.elim (fun x => .inl (g x)) (fun x => .inr (g x)), h.bl.trans k⟩
theorem Bd.lt {w0 w : World} {b : Nat} {l : List UInt8} (h : Bd w0 w b l) : b < w.heap.size := h.isb.elim (fun x => x.lt) (fun x => x.lt)
theorem Bd.ge {w0 w : World} {b : Nat} {l : List UInt8} (h : Bd w0 w b l) : w0.heap.size ≤ b := h.isb.elim (fun x => x.1) (fun x => x.1)
theorem Bd.ofBelow {w0 w w' : World} (h : Bl w0 w) (k : Below w0.heap.size w w') : Bl w0 w' := ⟨h.out.trans k⟩

theorem bstr_any (w0 w : World) (b : Nat) (l : List UInt8) (s : ByteArray) (h : Bd w0 w b l) (hlen : l.length + s.size ≤ 140737488355328) :
    Calls Tryz.prog 59 #[.pointer (some ⟨b, 0, none⟩), .string s] w fun e w' => e = .returned (.tuple #[.int .i64 s.size, .nilIface]) ∧ Bd w0 w' b (l ++ s.data.toList) ∧ Lib.OthersKept 5 (some b) w w' := by
  refine (Tryz.Builder_WriteString_k w0.heap.size b _ s w h.isb (by rw [Lib.byteCells_length]; exact hlen) h.bl.size).mono ?_
  rintro e w' ⟨rfl, h1, h2, h3⟩
  refine ⟨rfl, ⟨.inr ?_, Bd.ofBelow h.bl h2⟩, h3⟩
  rw [Lib.byteCells_append, ← Lib.strCells_eq]; exact h1
theorem bbyte_any (w0 w : World) (b : Nat) (l : List UInt8) (c : UInt8) (n : Int) (hn : n = (c.toNat : Int)) (h : Bd w0 w b l) (hlen : l.length + 1 ≤ 140737488355328) :
    Calls Tryz.prog 60 #[.pointer (some ⟨b, 0, none⟩), .int .u8 n] w fun e w' => e = .returned .nilIface ∧ Bd w0 w' b (l ++ [c]) ∧ Lib.OthersKept 5 (some b) w w' := by
  subst hn
  refine (Tryz.Builder_WriteByte_k w0.heap.size b _ (c.toNat : Int) w h.isb (by rw [Lib.byteCells_length]; exact hlen) h.bl.size).mono ?_
  rintro e w' ⟨rfl, h1, h2, h3⟩
  refine ⟨rfl, ⟨.inr ?_, Bd.ofBelow h.bl h2⟩, h3⟩
  rw [Lib.byteCells_append]; exact h1
theorem bwrite_any (w0 w : World) (b : Nat) (l : List UInt8) (ad : Addr) (n c : Nat) (m : List UInt8) (h : Bd w0 w b l) (hl : m.length = n) (hlt0 : ad.block < w0.heap.size)
    (hsrc : ∀ j u, (Lib.byteCells m)[j]? = some u → w.cell? (ad.add j) = some u) (hlen : l.length + n ≤ 140737488355328) :
    Calls Tryz.prog 181 #[.pointer (some ⟨b, 0, none⟩), .slice (some ad) n c] w fun e w' => e = .returned (.tuple #[.int .i64 n, .nilIface]) ∧ Bd w0 w' b (l ++ m) ∧ Lib.OthersKept 5 (some b) w w' := by
  refine (write_any w0.heap.size b _ ad n c (Lib.byteCells m) w h.isb (by rw [Lib.byteCells_length]; exact hl) hlt0 hsrc (fun u hu => by simp [Lib.byteCells] at hu; obtain ⟨x, _, rfl⟩ := hu; rfl) (by rw [Lib.byteCells_length]; exact hlen) h.bl.size).mono ?_
  rintro e w' ⟨rfl, h1, h2, h3⟩
  refine ⟨rfl, ⟨.inr ?_, Bd.ofBelow h.bl h2⟩, h3⟩
  rw [Lib.byteCells_append]; exact h1
theorem bstring_any (w0 w : World) (b : Nat) (l : List UInt8) (h : Bd w0 w b l) :
    Calls Tryz.prog 27 #[.pointer (some ⟨b, 0, none⟩)] w fun e w' => e = .returned (.string (mkB l)) ∧ Bd w0 w' b l ∧ Lib.OthersKept 5 (some b) w w' := by
  refine (Tryz.Builder_String_any_k w0.heap.size b l w h.isb h.bl.size).mono ?_
  rintro e w' ⟨rfl, h1, h2, h3⟩
  exact ⟨rfl, ⟨h1, Bd.ofBelow h.bl h2⟩, h3⟩

/-! ### text.Clean -/
def widthL (l : List UInt8) : Nat := (Lib.decodeGo (mkB l)).2
/-- Does the text begin with a byte that is no text's? -/
def badL (l : List UInt8) : Bool := l.headD 0 == 0 || (widthL l == 1 && decide (128 ≤ (l.headD 0).toNat))
def cleanGo : Nat → List UInt8 → List UInt8
  | 0, _ => []
  | f + 1, l => if l.isEmpty then [] else if badL l then [239, 191, 189] ++ cleanGo f l.tail else l.take (widthL l) ++ cleanGo f (l.drop (widthL l))
def cleanL (l : List UInt8) : List UInt8 := cleanGo (l.length + 1) l
theorem width_bounds (l : List UInt8) (h : l ≠ []) : 1 ≤ widthL l ∧ widthL l ≤ l.length := by
  have hp : 0 < (mkB l).size := by rw [mkB_size]; exact List.length_pos_iff.mpr h
  unfold widthL Lib.decodeGo
  rw [if_neg (by omega)]
  exact ⟨Lib.decode_width_pos _ 0 hp, by have := Lib.width_le (mkB l) hp; rwa [mkB_size] at this⟩

end Go.Proofs.YtjocbifjmchbcaaGreatDoor
/- The walk through text.Clean. -/
namespace Go.Proofs.YtjocbifjmchbcaaGreatDoor
open Go.RowKit

/-- The bytes l lie at off in block B. -/
structure BytesAt (w : World) (B off : Nat) (l : List UInt8) : Prop where
  mk :: (out : ∀ (j : Nat) (b : UInt8), l[j]? = some b → w.cell? ⟨B, off + j, none⟩ = some (.int .u8 (b.toNat : Int)))
theorem BytesAt.more {w w' : World} {B off : Nat} {l : List UInt8} (h : BytesAt w B off l) (k : Bl w w') : BytesAt w' B off l := ⟨fun j b hj => k.cell (h.out j b hj)⟩
theorem BytesAt.drop {w : World} {B off : Nat} {l : List UInt8} (h : BytesAt w B off l) (n : Nat) : BytesAt w B (off + n) (l.drop n) :=
  ⟨fun j b hj => by rw [List.getElem?_drop] at hj; have := h.out (n + j) b hj; rwa [← Nat.add_assoc] at this⟩
theorem BytesAt.take {w : World} {B off : Nat} {l : List UInt8} (h : BytesAt w B off l) (n : Nat) : BytesAt w B off (l.take n) :=
  ⟨fun j b hj => h.out j b (by rw [List.getElem?_take] at hj; split at hj <;> first | exact hj | cases hj)⟩
theorem BytesAt.src {w : World} {B off : Nat} {l : List UInt8} (h : BytesAt w B off l) : ∀ j u, (Lib.byteCells l)[j]? = some u → w.cell? ((⟨B, off, none⟩ : Addr).add j) = some u := by
  intro j u hj
  rw [show (⟨B, off, none⟩ : Addr).add j = ⟨B, off + j, none⟩ by unfold Addr.add; split <;> simp_all]
  unfold Lib.byteCells at hj
  rw [List.getElem?_map] at hj
  cases hb : l[j]? with
  | none => rw [hb] at hj; cases hj
  | some b => rw [hb] at hj; cases hj; exact h.out j b hb
theorem BytesAt.dec {w : World} {B off : Nat} {l : List UInt8} (h : BytesAt w B off l) : ∀ j, j < (mkB l).size → w.cell? ⟨B, off + j, none⟩ = some (.int .u8 ((mkB l).get! j).toNat) := by
  intro j hj
  rw [mkB_size] at hj
  have := h.out j l[j] (List.getElem?_eq_getElem hj)
  rw [this]
  congr 2
  show ((l[j].toNat : Int)) = _
  simp [mkB, ByteArray.get!, hj]
theorem BytesAt.lt {w : World} {B off : Nat} {l : List UInt8} (h : BytesAt w B off l) (hl : l ≠ []) : B < w.heap.size := by
  cases l with
  | nil => exact absurd rfl hl
  | cons a l => exact World.block_lt_of_cell? w _ (h.out 0 a rfl)
theorem tabs_more {w w' : World} (h : Lib.Utf8Tabs 0 1 w) (k : Bl w w') : Lib.Utf8Tabs 0 1 w' :=
  ⟨fun c hc => k.cell (h.1 c hc), fun i hi => ⟨k.cell (h.2 i hi).1, k.cell (h.2 i hi).2⟩⟩
theorem ex_at (m : List UInt8) (k : Nat) (h : k < m.length) : ∃ x, m[k]? = some x := ⟨m[k], List.getElem?_eq_getElem h⟩
theorem headD_at0 (m : List UInt8) (x : UInt8) (h : m[0]? = some x) : m.headD 0 = x := by
  rw [List.headD_eq_head?_getD, List.head?_eq_getElem?, h]; rfl
theorem cleanGo_bad (f : Nat) (l : List UInt8) (h : l ≠ []) (hb : badL l = true) : cleanGo (f + 1) l = [239, 191, 189] ++ cleanGo f l.tail := by
  rw [cleanGo, if_neg (by simpa using h), if_pos hb]
theorem cleanGo_good (f : Nat) (l : List UInt8) (h : l ≠ []) (hb : badL l = false) : cleanGo (f + 1) l = l.take (widthL l) ++ cleanGo f (l.drop (widthL l)) := by
  rw [cleanGo, if_neg (by simpa using h), if_neg (by rw [hb]; decide)]
theorem cleanGo_nil (f : Nat) : cleanGo f [] = [] := by cases f <;> rfl

set_option maxRecDepth 100000 in
set_option maxHeartbeats 4000000 in
theorem clean_any (B off n c : Nat) (s : List UInt8) (w : World) (hT : Lib.Utf8Tabs 0 1 w) (hs : BytesAt w B off s) (hn : s.length = n) (hle : n ≤ c) (hbig : n ≤ 1000000) :
    Calls Tryz.prog 117 #[.slice (some ⟨B, off, none⟩) n c] w fun e w' => e = .returned (.string (mkB (cleanL s))) ∧ Bl w w' := by
  go_enter Tryz.func117, Tryz.ntmps117
  go_wp2
  go_step3
  go_wp2
  go_step3
  go_wp2
  go_loopg [0, 4, 5] (n + 1) (fun f v0 v4 v5 wr => ∃ (k m c' o' : Nat) (done : List UInt8), k + m = n ∧ m < f ∧ m ≤ c' ∧ done.length ≤ 3 * k ∧ v0 = .slice (some ⟨B, o', none⟩) m c' ∧ (0 < m → o' = off + k) ∧ Bd w wr w.heap.size done ∧ Hid (cleanL s = done ++ cleanGo f (s.drop k)))
  case atStart => exact ⟨0, n, c, off, [], by omega, by omega, hle, by simp, rfl, fun _ => rfl, Bd.new (Bl.refl w), Lib.hid (by unfold cleanL; rw [hn]; rfl)⟩
  case round =>
    obtain ⟨k, m, c', o', done, hkm, hmf, hmc, hdl, rfl, ho', hD, hrel⟩ := hrel
    rcases Nat.eq_zero_or_pos m with m0 | hmp
    · subst m0
      have R := Lib.hid (show cleanL s = done by rw [hrel.out, List.drop_of_length_le (by omega), cleanGo_nil, List.append_nil])
      go_wp2_with fail
      refine (bstring_any w _ _ done hD).mono ?_
      rintro e w2 ⟨rfl, hD2, _⟩
      go_wp2
      rw [Exit.noGoto_ret]
      go_ret
      exact ⟨ret_str (by rw [R.out]), hD2.bl⟩
    · obtain rfl := ho' hmp
      clear ho'
      cases gk with
      | zero => omega
      | succ f =>
        obtain ⟨t, ht⟩ : ∃ t, s.drop k = t := ⟨_, rfl⟩
        have htl : t.length = m := by rw [← ht, List.length_drop]; omega
        have htne : t ≠ [] := by intro e; rw [e] at htl; simp at htl; omega
        have hsz : (mkB t).size = m := by rw [mkB_size]; exact htl
        have hTB := hs.drop k
        rw [ht] at hrel hTB
        have hwb := width_bounds t htne
        have hG := cleanGo_good f t htne
        have hBd := cleanGo_bad f t htne
        have hBlt := hs.lt (show s ≠ [] by intro e; rw [e] at hn; simp at hn; omega)
        have HD := fun W (h1 : Lib.Utf8Tabs 0 1 W) (h2 : BytesAt W B (off + k) t) => Tryz.utf8_DecodeRune (mkB t) B (off + k) c' W h1 h2.dec
        rw [hsz] at HD
        obtain ⟨r, hr⟩ : ∃ r, (Lib.decodeGo (mkB t)).1 = r := ⟨_, rfl⟩
        obtain ⟨q, hq⟩ : ∃ q, widthL t = q := ⟨_, rfl⟩
        have hq2 : (Lib.decodeGo (mkB t)).2 = q := hq
        rw [hr, hq2] at HD
        rw [hq] at hwb hG
        rw [htl] at hwb
        obtain ⟨b0, hb0⟩ := ex_at t 0 (by omega)
        have hh := headD_at0 t b0 hb0
        have hbad : badL t = (((b0.toNat : Int) == 0) || (((q : Int) == 1) && decide ((128 : Int) ≤ (b0.toNat : Int)))) := by
          unfold badL
          rw [hq, hh, eq_of_byte (c := 0) 0 rfl]
          congr 2
          · rw [Bool.eq_iff_iff]; simp; omega
          · rw [Bool.eq_iff_iff]; simp; omega
        have hc0 := hTB.out 0 b0 hb0
        have dm : decide (0 < m) = true := decide_eq_true hmp
        have hTl : t.tail = s.drop (k + 1) := by rw [← ht, ← List.drop_one, List.drop_drop]
        have hTq : t.drop q = s.drop (k + q) := by rw [← ht, List.drop_drop]
        have hqt : (t.take q).length = q := by rw [List.length_take]; omega
        rw [hTl] at hBd
        rw [hTq] at hG
        have X1 := Lib.hid hG
        have X2 := Lib.hid hBd
        have X3 := Lib.hid hqt
        have X4 := Lib.hid htl
        clear hG hBd hq hq2 hr hsz ht hh hTl hTq hqt htl
        have hb1 : BytesAt wr B (off + k) t := hTB.more hD.bl
        have hbad := Lib.hid hbad
        rw [Nat.add_zero] at hc0
        cases h0 : ((b0.toNat : Int) == 0) with
        | true =>
          have Y := X2.out (by rw [hbad.out, h0]; rfl)
          have H := Lib.hid (show cleanL s = (done ++ [239, 191, 189]) ++ cleanGo f (s.drop (k + 1)) by rw [hrel.out, Y, List.append_assoc])
          clear Y X1 X2 hbad
          go_wp2_with fail
          refine (HD _ (tabs_more hT hD.bl) hb1).mono ?_
          rintro e w2 ⟨rfl, hw2⟩
          have hD2 := hD.more ⟨hw2⟩
          have hc2 := (hTB.more hD2.bl).out 0 b0 hb0
          rw [Nat.add_zero] at hc2
          go_wp2_with fail
          refine (bstr_any w _ _ done ⟨#[239, 191, 189]⟩ hD2 (by show done.length + 3 ≤ _; omega)).mono ?_
          rintro e w3 ⟨rfl, hD3, _⟩
          by_cases hcq : c' = 1
          · subst hcq
            obtain rfl : 1 = m := by omega
            go_wp2
            go_roundg f
            case rel => exact ⟨k + 1, 0, 0, off + k, done ++ [239, 191, 189], by omega, by omega, by omega, by simp; omega, by first | rfl | simp, by omega, hD3, H⟩
            case measure => omega
          · have hcq2 : c' - 1 ≠ 0 := by omega
            have hcq3 : 1 < c' := by omega
            go_wp2
            go_roundg f
            case rel => exact ⟨k + 1, m - 1, c' - 1, off + k + 1, done ++ [239, 191, 189], by omega, by omega, by omega, by simp; omega, by first | rfl | simp, by omega, hD3, H⟩
            case measure => omega
        | false =>
          cases h1 : ((q : Int) == 1) with
          | false =>
            have Y := X1.out (by rw [hbad.out, h0, h1]; rfl)
            have H := Lib.hid (show cleanL s = (done ++ t.take q) ++ cleanGo f (s.drop (k + q)) by rw [hrel.out, Y, List.append_assoc])
            clear Y X1 X2 hbad
            go_wp2_with fail
            refine (HD _ (tabs_more hT hD.bl) hb1).mono ?_
            rintro e w2 ⟨rfl, hw2⟩
            have hD2 := hD.more ⟨hw2⟩
            have hc2 := (hTB.more hD2.bl).out 0 b0 hb0
            rw [Nat.add_zero] at hc2
            go_wp2_with fail
            refine (bwrite_any w _ _ done ⟨B, off + k, none⟩ q _ (t.take q) hD2 X3.out hBlt ((hTB.take q).more hD2.bl).src (by omega)).mono ?_
            rintro e w3 ⟨rfl, hD3, _⟩
            by_cases hcq : c' = q
            · have hcq2 := hcq.symm
              subst hcq2
              obtain rfl : q = m := by omega
              go_wp2
              go_roundg f
              case rel => exact ⟨k + q, 0, 0, off + k, done ++ t.take q, by omega, by omega, by omega, by rw [List.length_append, X3.out]; omega, by first | rfl | simp, by omega, hD3, H⟩
              case measure => omega
            · have hcq2 : c' - q ≠ 0 := by omega
              have hcq3 : q < c' := by omega
              go_wp2
              go_roundg f
              case rel => exact ⟨k + q, m - q, c' - q, off + k + q, done ++ t.take q, by omega, by omega, by omega, by rw [List.length_append, X3.out]; omega, by first | rfl | simp, by omega, hD3, H⟩
              case measure => omega
          | true =>
            cases h2 : decide ((128 : Int) ≤ (b0.toNat : Int)) with
            | true =>
              have Y := X2.out (by rw [hbad.out, h0, h1, h2]; rfl)
              have H := Lib.hid (show cleanL s = (done ++ [239, 191, 189]) ++ cleanGo f (s.drop (k + 1)) by rw [hrel.out, Y, List.append_assoc])
              clear Y X1 X2 hbad
              go_wp2_with fail
              refine (HD _ (tabs_more hT hD.bl) hb1).mono ?_
              rintro e w2 ⟨rfl, hw2⟩
              have hD2 := hD.more ⟨hw2⟩
              have hc2 := (hTB.more hD2.bl).out 0 b0 hb0
              rw [Nat.add_zero] at hc2
              go_wp2_with fail
              refine (bstr_any w _ _ done ⟨#[239, 191, 189]⟩ hD2 (by show done.length + 3 ≤ _; omega)).mono ?_
              rintro e w3 ⟨rfl, hD3, _⟩
              by_cases hcq : c' = 1
              · subst hcq
                obtain rfl : 1 = m := by omega
                go_wp2
                go_roundg f
                case rel => exact ⟨k + 1, 0, 0, off + k, done ++ [239, 191, 189], by omega, by omega, by omega, by simp; omega, by first | rfl | simp, by omega, hD3, H⟩
                case measure => omega
              · have hcq2 : c' - 1 ≠ 0 := by omega
                have hcq3 : 1 < c' := by omega
                go_wp2
                go_roundg f
                case rel => exact ⟨k + 1, m - 1, c' - 1, off + k + 1, done ++ [239, 191, 189], by omega, by omega, by omega, by simp; omega, by first | rfl | simp, by omega, hD3, H⟩
                case measure => omega
            | false =>
              have Y := X1.out (by rw [hbad.out, h0, h1, h2]; rfl)
              have H := Lib.hid (show cleanL s = (done ++ t.take q) ++ cleanGo f (s.drop (k + q)) by rw [hrel.out, Y, List.append_assoc])
              clear Y X1 X2 hbad
              go_wp2_with fail
              refine (HD _ (tabs_more hT hD.bl) hb1).mono ?_
              rintro e w2 ⟨rfl, hw2⟩
              have hD2 := hD.more ⟨hw2⟩
              have hc2 := (hTB.more hD2.bl).out 0 b0 hb0
              rw [Nat.add_zero] at hc2
              go_wp2_with fail
              refine (bwrite_any w _ _ done ⟨B, off + k, none⟩ q _ (t.take q) hD2 X3.out hBlt ((hTB.take q).more hD2.bl).src (by omega)).mono ?_
              rintro e w3 ⟨rfl, hD3, _⟩
              by_cases hcq : c' = q
              · have hcq2 := hcq.symm
                subst hcq2
                obtain rfl : q = m := by omega
                go_wp2
                go_roundg f
                case rel => exact ⟨k + q, 0, 0, off + k, done ++ t.take q, by omega, by omega, by omega, by rw [List.length_append, X3.out]; omega, by first | rfl | simp, by omega, hD3, H⟩
                case measure => omega
              · have hcq2 : c' - q ≠ 0 := by omega
                have hcq3 : q < c' := by omega
                go_wp2
                go_roundg f
                case rel => exact ⟨k + q, m - q, c' - q, off + k + q, done ++ t.take q, by omega, by omega, by omega, by rw [List.length_append, X3.out]; omega, by first | rfl | simp, by omega, hD3, H⟩
                case measure => omega

end Go.Proofs.YtjocbifjmchbcaaGreatDoor
/- The parser of a text's parts, in plain words. What stands behind it (references, notes, where a bracket leads) is given as X. -/
namespace Go.Proofs.YtjocbifjmchbcaaGreatDoor

/-- What the parser asks of others: a reference (its character, how long it is; 0: none); a note's label; where a bracket leads (address, title, how many bytes behind the bracket), told what stands behind it and what stands in it. -/
structure Ext where
  ent : List UInt8 → List UInt8 × Nat
  note : List UInt8 → Option (List UInt8)
  target : List UInt8 → List UInt8 → Option (List UInt8 × List UInt8 × Nat)
  strike : Bool
/-- Where a parser is, and what it has made. -/
structure Pa where
  at_ : Nat
  l : List Pc
def blankN (l : List UInt8) : Nat := (l.takeWhile ([32, 9].contains ·)).length
def specialL : List UInt8 := [92, 38, 96, 60, 42, 95, 126, 33, 91, 93, 10]
def Pa.add (a : Pa) (k : Nat) (s t : List UInt8) (f : Fo) (n : Nat) : Pa := ⟨a.at_ + n, a.l ++ [.node k s t f]⟩
def Pa.blanks (s : List UInt8) (a : Pa) : Pa := { a with at_ := a.at_ + blankN (s.drop a.at_) }
def killL (l : List Pc) : List Pc := l.map fun p => match p with
  | .op false _ n => .op false false n
  | p => p
/-- The last piece without blanks at its end, and whether these are two or more. -/
def cutLast (l : List Pc) : Bool × List Pc := match l.getLast? with
  | some (.node 14 s t f) => (decide (2 ≤ s.length - (Lib.trimRightB s 32).length), l.dropLast ++ [.node 14 (Lib.trimRightB s 32) t f])
  | _ => (false, l)
def newlineL (s : List UInt8) (a : Pa) : Pa :=
  (Pa.add ⟨a.at_, (cutLast a.l).2⟩ (if (cutLast a.l).1 then 16 else 15) [] [] .nil 1).blanks s
def backslashL (s : List UInt8) (a : Pa) : Pa := match s.drop (a.at_ + 1) with
  | [] => a.add 14 [92] [] .nil 1
  | b :: _ => if b == 10 then (a.add 16 [] [] .nil 2).blanks s else if signB b then a.add 14 [b] [] .nil 2 else a.add 14 [92] [] .nil 1
def ampersandL (X : Ext) (s : List UInt8) (a : Pa) : Pa :=
  if 0 < (X.ent (s.drop a.at_)).2 then a.add 14 (X.ent (s.drop a.at_)).1 [] .nil (X.ent (s.drop a.at_)).2 else a.add 14 [38] [] .nil 1
def ticksL (s : List UInt8) (a : Pa) : Pa :=
  if 0 < (codeL (s.drop a.at_)).2 then a.add 17 (codeL (s.drop a.at_)).1 [] .nil (codeL (s.drop a.at_)).2
  else a.add 14 ((s.drop a.at_).take (runL (s.drop a.at_))) [] .nil (runL (s.drop a.at_))
def angleL (s : List UInt8) (a : Pa) : Pa :=
  if 0 < (autoL (s.drop a.at_)).2.2 then
    let b := a.add 20 (autoL (s.drop a.at_)).1 [] (.one 14 (autoL (s.drop a.at_)).2.1 [] .nil) (autoL (s.drop a.at_)).2.2
    { b with l := killL b.l }
  else if 0 < rawL (s.drop a.at_) then a.add 22 ((s.drop a.at_).take (rawL (s.drop a.at_))) [] .nil (rawL (s.drop a.at_))
  else a.add 14 [60] [] .nil 1
/-- A text's character at its begin, and at its end; 0: it is empty. -/
def firstI (l : List UInt8) : Int := if l.isEmpty then 0 else (Lib.decodeGo (mkB (cleanL (l.take 4)))).1
def lastI (l : List UInt8) : Int := if l.isEmpty then 0 else if (Lib.decodeLastL l).1 == 0 then 65533 else (Lib.decodeLastL l).1
def signsL (s : List UInt8) (c : UInt8) (a : Pa) : Pa :=
  let n := runL (s.drop a.at_)
  if c == 126 && decide (2 < n) then a.add 14 ((s.drop a.at_).take n) [] .nil n
  else
    let f := flankR (lastI (s.take a.at_)) (firstI (s.drop (a.at_ + n))) (c.toNat : Int)
    ⟨a.at_ + n, a.l ++ [.run ⟨c, n, f.1, f.2⟩]⟩
def bracketL (img : Bool) (a : Pa) : Pa := ⟨a.at_ + (opS img).length, a.l ++ [.op img true (a.at_ + (opS img).length)]⟩
/-- The last opener: its place, and what it is. -/
def openedL : List Pc → Option (Nat × Bool × Bool × Nat)
  | [] => none
  | p :: t => match openedL t with
    | some (k, x) => some (k + 1, x)
    | none => match p with
      | .op img live n => some (0, img, live, n)
      | _ => none
def closesL (X : Ext) (s : List UInt8) (a : Pa) : Pa := match openedL a.l with
  | none => a.add 14 [93] [] .nil 1
  | some (k, img, live, n) =>
    let t := (s.take a.at_).drop n
    match X.note t, X.target (s.drop (a.at_ + 1)) t, live, img with
    | some label, _, true, false => Pa.add ⟨a.at_, a.l.take k⟩ 24 label [] .nil 1
    | _, some (d, e, m), true, false => Pa.add ⟨a.at_, killL (a.l.take k)⟩ 20 d e (nodesL (a.l.drop (k + 1))) (1 + m)
    | _, some (d, e, m), true, true => Pa.add ⟨a.at_, a.l.take k⟩ 21 d e (nodesL (a.l.drop (k + 1))) (1 + m)
    | _, _, _, _ => Pa.add ⟨a.at_, a.l.set k (.text (opS img))⟩ 14 [93] [] .nil 1
def plainN (l : List UInt8) : Nat := if (Lib.indexAny (l.drop 1) specialL + 1).toNat = 0 then l.length else (Lib.indexAny (l.drop 1) specialL + 1).toNat
def plainP (s : List UInt8) (a : Pa) : Pa := a.add 14 ((s.drop a.at_).take (plainN (s.drop a.at_))) [] .nil (plainN (s.drop a.at_))
def stepL (X : Ext) (s : List UInt8) (a : Pa) : Pa :=
  let c := (s.drop a.at_).headD 0
  if c == 92 then backslashL s a
  else if c == 38 then ampersandL X s a
  else if c == 96 then ticksL s a
  else if c == 60 then angleL s a
  else if c == 42 || c == 95 || (c == 126 && X.strike) then signsL s c a
  else if Lib.hasPrefix (s.drop a.at_) [33, 91] then bracketL true a
  else if c == 91 then bracketL false a
  else if c == 93 then closesL X s a
  else if c == 10 then newlineL s a
  else plainP s a
def stepsL (X : Ext) (s : List UInt8) : Nat → Pa → Pa
  | 0, a => a
  | f + 1, a => if a.at_ < s.length then stepsL X s f (stepL X s a) else a
def piecesL (X : Ext) (s : List UInt8) : List Pc := (stepsL X s s.length ⟨0, []⟩).l
def parseL (X : Ext) (s : List UInt8) : Fo := tidyL (nodesL (piecesL X s))
end Go.Proofs.YtjocbifjmchbcaaGreatDoor
/- Nodes made tidy: plain facts, and the row that is laid out. -/
namespace Go.Proofs.YtjocbifjmchbcaaGreatDoor
open Go.RowKit

def Fo.drop : Nat → Fo → Fo
  | 0, f => f
  | _ + 1, .nil => .nil
  | n + 1, .cons _ _ _ _ r => r.drop n
def Fo.sz : Fo → Nat
  | .nil => 0
  | .cons _ _ _ l r => l.sz + r.sz + 1
theorem Fo.drop_len : ∀ f : Fo, f.drop f.len = .nil
  | .nil => rfl
  | .cons _ _ _ _ r => by show r.drop r.len = _; exact Fo.drop_len r
theorem Fo.len_sz : ∀ f : Fo, f.len ≤ f.sz
  | .nil => Nat.le_refl _
  | .cons _ _ _ _ r => by have := Fo.len_sz r; simp [Fo.len, Fo.sz]; omega
theorem NodeCells.get {w : World} {L : List Nat} : ∀ {f : Fo} {xs : List Value} {j : Nat}, NodeCells w L f xs → j < f.len → ∃ k s t l v, f.drop j = .cons k s t l (f.drop (j + 1)) ∧ (∀ i x, (nodeV k s t v)[i]? = some x → xs[j * 7 + i]? = some x) ∧ Rep w L v l ∧ l.sz < f.sz
  | .nil, _, _, _, hj => absurd hj (Nat.not_lt_zero _)
  | .cons k s t l r, xs, 0, h, _ => by
    obtain ⟨v, ys, rfl, h1, h2⟩ := (NodeCells.cons_iff _ _ _ _ _ _ _ _).1 h
    refine ⟨k, s, t, l, v, rfl, fun i x hi => ?_, h1, by simp [Fo.sz]; omega⟩
    have := (List.getElem?_eq_some_iff.1 hi).1
    rw [Nat.zero_mul, Nat.zero_add, List.getElem?_append_left this]; exact hi
  | .cons k s t l r, xs, j + 1, h, hj => by
    obtain ⟨v, ys, rfl, h1, h2⟩ := (NodeCells.cons_iff _ _ _ _ _ _ _ _).1 h
    obtain ⟨k', s', t', l', v', g1, g2, g3, g4⟩ := NodeCells.get (j := j) h2 (by simp [Fo.len] at hj; omega)
    refine ⟨k', s', t', l', v', g1, fun i x hi => ?_, g3, by simp [Fo.sz]; omega⟩
    have hl : (nodeV k s t v).length = 7 := rfl
    rw [List.getElem?_append_right (by rw [hl]; omega), hl]
    have e : (j + 1) * 7 + i - 7 = j * 7 + i := by omega
    rw [e]; exact g2 i x hi
theorem Rep.get {w : World} {L : List Nat} {v : Value} {f : Fo} {j : Nat} (h : Rep w L v f) (hj : j < f.len) : ∃ b o c k s t l vl, v = .slice (some ⟨b, o, none⟩) f.len c ∧ f.drop j = .cons k s t l (f.drop (j + 1)) ∧ (∀ i x, (nodeV k s t vl)[i]? = some x → w.cell? ⟨b, o + (j * 7 + i), none⟩ = some x) ∧ Rep w L vl l ∧ l.sz < f.sz := by
  obtain ⟨zs, h1, h2⟩ := h.out
  obtain ⟨k, s, t, l, vl, g1, g2, g3, g4⟩ := h1.get hj
  rcases h2 with ⟨_, rfl⟩ | ⟨b, o, c, cs, fz, rfl, _, _, hb, hc⟩
  · exact absurd hj (Nat.not_lt_zero _)
  · refine ⟨b, o, c, k, s, t, l, vl, rfl, g1, fun i x hi => ?_, g3, g4⟩
    rw [Lib.cell_of_heap hb]
    exact hc _ _ (g2 i x hi)
/-- lay, at the end of what is there. -/
theorem lay_nil (k : Nat) (s t : List UInt8) (l : Fo) : Fo.nil.lay k s t l = if k == 14 && s.isEmpty then .nil else .one k s t l := rfl
theorem snoc_cons (k0 : Nat) (s0 t0 : List UInt8) (l0 r : Fo) (k : Nat) (s t : List UInt8) (l : Fo) : (Fo.cons k0 s0 t0 l0 r).snoc k s t l = .cons k0 s0 t0 l0 (r.snoc k s t l) := rfl
theorem lay_snoc (k0 : Nat) (s0 t0 : List UInt8) (l0 : Fo) (k : Nat) (s t : List UInt8) (l : Fo) : ∀ f : Fo, (f.snoc k0 s0 t0 l0).lay k s t l =
    if k == 14 then if s.isEmpty then f.snoc k0 s0 t0 l0 else if k0 == 14 then f.snoc k0 (s0 ++ s) t0 l0 else (f.snoc k0 s0 t0 l0).snoc k s t l else (f.snoc k0 s0 t0 l0).snoc k s t l
  | .nil => by
    show (Fo.cons k0 s0 t0 l0 .nil).lay k s t l = _
    rw [Fo.lay]
    rfl
  | .cons k1 s1 t1 l1 .nil => by
    have ih := lay_snoc k0 s0 t0 l0 k s t l .nil
    show Fo.cons k1 s1 t1 l1 ((Fo.cons k0 s0 t0 l0 .nil).lay k s t l) = _
    have e : (Fo.cons k0 s0 t0 l0 .nil) = Fo.nil.snoc k0 s0 t0 l0 := rfl
    rw [e, ih]
    split <;> (try split) <;> (try split) <;> rfl
  | .cons k1 s1 t1 l1 (.cons k2 s2 t2 l2 r) => by
    have ih := lay_snoc k0 s0 t0 l0 k s t l (.cons k2 s2 t2 l2 r)
    show Fo.cons k1 s1 t1 l1 (((Fo.cons k2 s2 t2 l2 r).snoc k0 s0 t0 l0).lay k s t l) = _
    rw [ih]
    split <;> (try split) <;> (try split) <;> rfl
theorem Fo.snoc_cases : ∀ f : Fo, f = .nil ∨ ∃ (g : Fo) (k : Nat) (s t : List UInt8) (l : Fo), f = g.snoc k s t l
  | .nil => .inl rfl
  | .cons k s t l r => by
    right
    rcases Fo.snoc_cases r with rfl | ⟨g, k', s', t', l', rfl⟩
    · exact ⟨.nil, k, s, t, l, rfl⟩
    · exact ⟨.cons k s t l g, k', s', t', l', rfl⟩
theorem tidyOn_cons (out : Fo) (k : Nat) (s t : List UInt8) (l r : Fo) : out.tidyOn (.cons k s t l r) = (out.lay k s t (tidyL l)).tidyOn r := rfl
theorem NodeCells.snoc_inv {w : World} {L : List Nat} {k : Nat} {s t : List UInt8} {l : Fo} : ∀ {f : Fo} {xs : List Value}, NodeCells w L (f.snoc k s t l) xs → ∃ ys v, xs = ys ++ nodeV k s t v ∧ NodeCells w L f ys ∧ Rep w L v l
  | .nil, xs, h => by
    obtain ⟨v, ys, rfl, h1, h2⟩ := (NodeCells.cons_iff _ _ _ _ _ _ _ _).1 (show NodeCells w L (.cons k s t l .nil) xs from h)
    rw [NodeCells.nil_iff] at h2
    subst h2
    exact ⟨[], v, by simp, rfl, h1⟩
  | .cons k0 s0 t0 l0 r, xs, h => by
    rw [snoc_cons] at h
    obtain ⟨v, ys, rfl, h1, h2⟩ := (NodeCells.cons_iff _ _ _ _ _ _ _ _).1 h
    obtain ⟨zs, v', rfl, h3, h4⟩ := NodeCells.snoc_inv h2
    exact ⟨nodeV k0 s0 t0 v ++ zs, v', by simp, (NodeCells.cons_iff _ _ _ _ _ _ _ _).2 ⟨v, zs, rfl, h1, h3⟩, h4⟩
end Go.Proofs.YtjocbifjmchbcaaGreatDoor
/- The row that Tidy lays out. -/
namespace Go.Proofs.YtjocbifjmchbcaaGreatDoor
open Go.RowKit

def ownL (v : Value) : List Nat := v.ownBlock.toList
theorem mem_ownL {v : Value} {b : Nat} : b ∈ ownL v ↔ v.ownBlock = some b := by unfold ownL; cases v.ownBlock <;> simp [eq_comm]
structure TO (w0 wr : World) (L : List Nat) (ov : Value) (out : Fo) (xs : List Value) : Prop where
  row : wr.ownsRow w0.heap.size 27 7 ov out.len xs
  nc : NodeCells wr (ownL ov ++ L) out xs
  bl : Bl w0 wr
  no : ∀ b, ov.ownBlock = some b → b ∉ L
  lt : ∀ x ∈ L, x < wr.heap.size
theorem TO.first (w0 wr : World) (L : List Nat) (hb : Bl w0 wr) (hL : ∀ x ∈ L, x < wr.heap.size) : TO w0 wr L (.slice none 0 0) .nil [] :=
  ⟨World.ownsRow_nil _ _ _ _, rfl, hb, fun b h => by simp [Value.ownBlock] at h, hL⟩
theorem TO.more {w0 wr wx : World} {L : List Nat} {ov : Value} {out : Fo} {xs : List Value} (h : TO w0 wr L ov out xs) (k : Bl wr wx) : TO w0 wx L ov out xs :=
  ⟨h.row.kept (grownBy_of_bl k none) (by cases ov.ownBlock <;> simp), h.nc.more (Fr.of_bl _ k) (fun x hx => .inl hx), h.bl.trans k, h.no, fun x hx => Nat.lt_of_lt_of_le (h.lt x hx) k.size⟩
/-- A new block is known. -/
theorem TO.know {w0 wr wx : World} {L : List Nat} {ov : Value} {out : Fo} {xs : List Value} (h : TO w0 wr L ov out xs) (k : Bl wr wx) {nb : Nat} (h1 : wr.heap.size ≤ nb) (h2 : nb < wx.heap.size) : TO w0 wx (nb :: L) ov out xs := by
  have h' := h.more k
  refine ⟨h'.row, h.nc.more (Fr.of_bl _ k) (fun x hx => ?_), h'.bl, fun b hb hm => ?_, fun x hx => ?_⟩
  · rcases List.mem_append.1 hx with hx | hx
    · exact .inl (List.mem_append_left _ hx)
    · rcases List.mem_cons.1 hx with rfl | hx
      · exact .inr h1
      · exact .inl (List.mem_append_right _ hx)
  · rcases List.mem_cons.1 hm with rfl | hm
    · have := (h.row.lt _ hb).2; omega
    · exact h.no b hb hm
  · rcases List.mem_cons.1 hx with rfl | hx
    · exact h2
    · exact h'.lt x hx
theorem TO.less {w0 wr : World} {L : List Nat} {nb : Nat} {ov : Value} {out : Fo} {xs : List Value} (h : TO w0 wr (nb :: L) ov out xs) : TO w0 wr L ov out xs :=
  ⟨h.row, h.nc.more (Fr.refl _ _) (fun x hx => by
    rcases List.mem_append.1 hx with hx | hx
    · exact .inl (List.mem_append_left _ hx)
    · exact .inl (List.mem_append_right _ (List.mem_cons_of_mem _ hx))), h.bl, fun b hb hm => h.no b hb (List.mem_cons_of_mem _ hm), fun x hx => h.lt x (List.mem_cons_of_mem _ hx)⟩
/-- A store into a block that is known. -/
theorem TO.set {w0 wr : World} {L : List Nat} {ov : Value} {out : Fo} {xs : List Value} (h : TO w0 wr L ov out xs) {nb : Nat} (hm : nb ∈ L) (h0 : w0.heap.size ≤ nb) (o : Nat) (x : Value) : TO w0 (wr.setCell ⟨nb, o, none⟩ x) L ov out xs := by
  have hg := grownBy_setCell wr ⟨nb, o, none⟩ x
  refine ⟨h.row.kept hg ?_, h.nc.more (Fr.set _ wr ⟨nb, o, none⟩ x (.inl (List.mem_append_right _ hm))) (fun x hx => .inl hx), h.bl.grown hg (fun b hb => by cases hb; exact h0), h.no, fun y hy => by rw [World.size_setCell]; exact h.lt y hy⟩
  cases hv : ov.ownBlock with
  | none => exact .inl rfl
  | some b => right; intro e; exact h.no b hv (by rw [Option.some.inj e]; exact hm)
/-- One more at the end. -/
theorem TO.app {w0 wr w1 w2 : World} {L : List Nat} {oo : Option Addr} {n c : Nat} {out : Fo} {xs : List Value} (h : TO w0 wr L (.slice oo n c) out xs) (hb : Bl wr w1) {g cap : Nat} {k : Nat} {s t : List UInt8} {v : Value} {l : Fo}
    (hg : w1.grownBy w2 (Value.slice oo n c).ownBlock) (hown : w2.ownsRow w0.heap.size 27 7 (.slice (some ⟨g, 0, none⟩) (out.len + 1) cap) (out.len + 1) (xs ++ nodeV k s t v))
    (hat : (Value.slice oo n c).ownBlock = some g ∨ w1.heap.size ≤ g) (hR : Rep w1 (ownL (.slice oo n c) ++ L) v l) : TO w0 w2 L (.slice (some ⟨g, 0, none⟩) (out.len + 1) cap) (out.snoc k s t l) (xs ++ nodeV k s t v) := by
  have h1 := h.more hb
  have hF : Fr (ownL (.slice oo n c) ++ L) w1 w2 := Fr.of_grown hg (fun b hb => .inl (List.mem_append_left _ (mem_ownL.2 hb)))
  have hLL : ∀ x ∈ ownL (.slice (some ⟨g, 0, none⟩) (out.len + 1) cap) ++ L, x ∈ ownL (.slice oo n c) ++ L ∨ w1.heap.size ≤ x := fun x hx => by
    rcases List.mem_append.1 hx with hx | hx
    · have := mem_ownL.1 hx
      cases this
      rcases hat with e | e
      · exact .inl (List.mem_append_left _ (mem_ownL.2 e))
      · exact .inr e
    · exact .inl (List.mem_append_right _ hx)
  refine ⟨by rw [Fo.len_snoc]; exact hown, ?_, h1.bl.grown hg (fun b hb => (h1.row.lt b hb).1), fun b hb hm => ?_, fun x hx => Nat.lt_of_lt_of_le (h1.lt x hx) hg.size⟩
  · exact (h1.nc.more hF hLL).app (NodeCells.one (hR.more hF hLL))
  · cases hb
    rcases hat with e | e
    · exact h.no _ e hm
    · have := h1.lt _ hm; dsimp only at this; omega
theorem ownsRow_set1 {w : World} {base : Nat} {e : TypeId} {size g n cap : Nat} {xs : List Value} (h : w.ownsRow base e size (.slice (some ⟨g, 0, none⟩) n cap) n xs) {i : Nat} (hi : i < xs.length) (x : Value) :
    (w.setCell ⟨g, i, none⟩ x).ownsRow base e size (.slice (some ⟨g, 0, none⟩) n cap) n (xs.set i x) := by
  obtain ⟨hlen, h2⟩ := h
  refine ⟨by simpa using hlen, ?_⟩
  rcases h2 with ⟨h1, _⟩ | ⟨g', cap', cur, h1, h3, h4, h5, h6, h7, h8⟩
  · cases h1
  · cases h1
    refine .inr ⟨g, cap, cur.setIfInBounds i x, rfl, h3, by simp [World.setCell, Array.getElem?_modify, h4], h5, h6, by simpa using h7, ?_⟩
    rw [← h8]
    simp [List.take_set]
/-- The last one's text turned. -/
theorem TO.turn {w0 wr : World} {L : List Nat} {g cap : Nat} {k : Nat} {s t : List UInt8} {l f : Fo} {ys : List Value} {v : Value} (h : TO w0 wr L (.slice (some ⟨g, 0, none⟩) (f.len + 1) cap) (f.snoc k s t l) (ys ++ nodeV k s t v)) (hys : ys.length = 7 * f.len) (hn : NodeCells wr (ownL (.slice (some ⟨g, 0, none⟩) (f.len + 1) cap) ++ L) f ys) (hR : Rep wr (ownL (.slice (some ⟨g, 0, none⟩) (f.len + 1) cap) ++ L) v l) (s' : List UInt8) :
    TO w0 (wr.setCell ⟨g, f.len * 7 + 1, none⟩ (.string (mkB s'))) L (.slice (some ⟨g, 0, none⟩) (f.len + 1) cap) (f.snoc k s' t l) (ys ++ nodeV k s' t v) := by
  have hF := Fr.set (ownL (.slice (some ⟨g, 0, none⟩) (f.len + 1) cap) ++ L) wr ⟨g, f.len * 7 + 1, none⟩ (.string (mkB s')) (.inl (List.mem_append_left _ (mem_ownL.2 rfl)))
  have hrow := h.row
  rw [Fo.len_snoc] at hrow
  have h1 := ownsRow_set1 hrow (i := f.len * 7 + 1) (by simp [nodeV, hys]; omega) (.string (mkB s'))
  have e : (ys ++ nodeV k s t v).set (f.len * 7 + 1) (.string (mkB s')) = ys ++ nodeV k s' t v := by
    rw [List.set_append_right _ _ (by omega), hys]
    have : f.len * 7 + 1 - 7 * f.len = 1 := by omega
    rw [this]; rfl
  rw [e] at h1
  refine ⟨by rw [Fo.len_snoc]; exact h1, ?_, h.bl.grown (grownBy_setCell _ _ _) (fun b hb => by cases hb; exact (hrow.lt g rfl).1), h.no, fun x hx => by rw [World.size_setCell]; exact h.lt x hx⟩
  exact (hn.more hF (fun x hx => .inl hx)).app (NodeCells.one (hR.more hF (fun x hx => .inl hx)))
end Go.Proofs.YtjocbifjmchbcaaGreatDoor
/- The parser in memory. -/
namespace Go.Proofs.YtjocbifjmchbcaaGreatDoor
open Go.RowKit

def opV (b : Nat) : Value := .iface 79 (.pointer (some ⟨b, 0, none⟩))
theorem opV_inj {a b : Nat} (h : opV a = opV b) : a = b := by unfold opV at h; cases h; rfl
/-- Nodes and openers lie as they lay. -/
structure Nf (w w' : World) : Prop where
  fr : Fr [] w w'
  op : ∀ (b : Nat) (cs : Array Value) (fz : Nat × Nat), w.heap[b]? = some (.cells cs 82 fz) → w'.heap[b]? = some (.cells cs 82 fz)
theorem Nf.refl (w : World) : Nf w w := ⟨Fr.refl _ _, fun _ _ _ h => h⟩
theorem Nf.trans {a b c : World} (h : Nf a b) (k : Nf b c) : Nf a c := ⟨h.fr.trans k.fr (fun x hx => .inl hx), fun b cs fz hb => k.op b cs fz (h.op b cs fz hb)⟩
theorem Nf.of_bl {w w' : World} (h : Bl w w') : Nf w w' := ⟨Fr.of_bl _ h, fun b cs fz hb => by rw [h.block (heap_lt hb)]; exact hb⟩
theorem Nf.of_grown {w w' : World} {row : Option Nat} (h : w.grownBy w' row) (hr : ∀ k, row = some k → ∃ cs t fz, w.heap[k]? = some (.cells cs t fz) ∧ t ≠ 27 ∧ t ≠ 82) : Nf w w' :=
  ⟨Fr.of_grown h (fun k hk => by obtain ⟨cs, t, fz, h1, h2, _⟩ := hr k hk; exact .inr ⟨cs, t, fz, h1, h2⟩), fun b cs fz hb => by
    rw [h.block b (heap_lt hb) (fun e => by
      obtain ⟨cs', t, fz', h1, _, h2⟩ := hr b e.symm
      rw [hb] at h1; cases h1; exact h2 rfl)]
    exact hb⟩
theorem Nf.set {w : World} {p : Addr} {v : Value} {cs : Array Value} {t : TypeId} {fz : Nat × Nat} (h : w.heap[p.block]? = some (.cells cs t fz)) (h1 : t ≠ 27) (h2 : t ≠ 82) : Nf w (w.setCell p v) :=
  Nf.of_grown (grownBy_setCell w p v) (fun k hk => by cases hk; exact ⟨cs, t, fz, h, h1, h2⟩)
theorem PcV.keep {w w' : World} (k : Nf w w') : ∀ {p : Pc} {x : Value}, PcV w p x → PcV w' p x
  | .node _ _ _ _, _, ⟨v, h1, h2⟩ => ⟨v, h1, h2.more k.fr (fun x hx => .inl hx)⟩
  | .run _, _, h => h
  | .op _ _ _, _, ⟨ob, h1, h2⟩ => ⟨ob, h1, k.op _ _ _ h2⟩
/-- A row of pieces, each as a value; no two are one opener. -/
structure PcR (w : World) (base : Nat) (l : List Pc) (xs : List Value) : Prop where
  len : xs.length = l.length
  get : ∀ (i : Nat) (p : Pc) (x : Value), l[i]? = some p → xs[i]? = some x → PcV w p x
  ge : ∀ (i b : Nat), xs[i]? = some (opV b) → base ≤ b
  one : ∀ (i j b : Nat), xs[i]? = some (opV b) → xs[j]? = some (opV b) → i = j
theorem PcR.nil (w : World) (base : Nat) : PcR w base [] [] := ⟨rfl, fun _ _ _ h => by simp at h, fun _ _ h => by simp at h, fun _ _ _ h => by simp at h⟩
theorem PcR.keep {w w' : World} {base : Nat} {l : List Pc} {xs : List Value} (h : PcR w base l xs) (k : Nf w w') : PcR w' base l xs := ⟨h.len, fun i p x h1 h2 => (h.get i p x h1 h2).keep k, h.ge, h.one⟩
theorem PcR.snoc {w : World} {base : Nat} {l : List Pc} {xs : List Value} (h : PcR w base l xs) {p : Pc} {x : Value} (hx : PcV w p x) (hn : ∀ b : Nat, x = opV b → base ≤ b ∧ ∀ i : Nat, xs[i]? ≠ some (opV b)) : PcR w base (l ++ [p]) (xs ++ [x]) := by
  have last : ∀ i y, (xs ++ [x])[i]? = some y → (i < xs.length ∧ xs[i]? = some y) ∨ (i = xs.length ∧ y = x) := fun i y hi => by
    by_cases h1 : i < xs.length
    · exact .inl ⟨h1, by rwa [List.getElem?_append_left h1] at hi⟩
    · have h2 := (List.getElem?_eq_some_iff.1 hi).1
      simp at h2
      have h3 : i = xs.length := by omega
      subst h3
      rw [List.getElem?_append_right (Nat.le_refl _)] at hi
      simp at hi
      exact .inr ⟨rfl, hi.symm⟩
  refine ⟨by simp [h.len], fun i q y h1 h2 => ?_, fun i b hi => ?_, fun i j b hi hj => ?_⟩
  · rcases last i y h2 with ⟨hl, h3⟩ | ⟨hl, rfl⟩
    · rw [List.getElem?_append_left (by rw [← h.len]; exact hl)] at h1
      exact h.get i q y h1 h3
    · rw [List.getElem?_append_right (by rw [← h.len]; omega), hl, h.len, Nat.sub_self] at h1
      cases h1; exact hx
  · rcases last i _ hi with ⟨_, h3⟩ | ⟨_, h3⟩
    · exact h.ge i b h3
    · exact (hn b h3.symm).1
  · rcases last i _ hi with ⟨h1, h3⟩ | ⟨h1, h3⟩ <;> rcases last j _ hj with ⟨h2, h4⟩ | ⟨h2, h4⟩
    · exact h.one i j b h3 h4
    · exact absurd h3 ((hn b h4.symm).2 i)
    · exact absurd h4 ((hn b h3.symm).2 j)
    · omega
theorem PcR.take {w : World} {base : Nat} {l : List Pc} {xs : List Value} (h : PcR w base l xs) (k : Nat) : PcR w base (l.take k) (xs.take k) := by
  have sub : ∀ {α : Type} (l : List α) (i : Nat) (y : α), (l.take k)[i]? = some y → l[i]? = some y := fun l i y hi => by
    rw [List.getElem?_take] at hi
    split at hi
    · exact hi
    · cases hi
  exact ⟨by simp [h.len], fun i p x h1 h2 => h.get i p x (sub _ _ _ h1) (sub _ _ _ h2), fun i b hi => h.ge i b (sub _ _ _ hi), fun i j b hi hj => h.one i j b (sub _ _ _ hi) (sub _ _ _ hj)⟩
theorem PcR.set {w : World} {base : Nat} {l : List Pc} {xs : List Value} (h : PcR w base l xs) (k : Nat) {p : Pc} {x : Value} (hx : PcV w p x) (hn : ∀ b : Nat, x ≠ opV b) : PcR w base (l.set k p) (xs.set k x) := by
  have sub : ∀ (i b : Nat), (xs.set k x)[i]? = some (opV b) → xs[i]? = some (opV b) := fun i b hi => by
    rw [List.getElem?_set] at hi
    split at hi
    · split at hi
      · exact absurd (Option.some.inj hi) (hn b)
      · cases hi
    · exact hi
  refine ⟨by simp [h.len], fun i q y h1 h2 => ?_, fun i b hi => h.ge i b (sub _ _ hi), fun i j b hi hj => h.one i j b (sub _ _ hi) (sub _ _ hj)⟩
  rw [List.getElem?_set] at h1 h2
  split at h1
  · rename_i e
    split at h1
    · cases h1
      rw [if_pos e] at h2
      split at h2
      · cases h2; exact hx
      · cases h2
    · cases h1
  · rename_i e
    rw [if_neg e] at h2
    exact h.get i q y h1 h2
/-- An opener that is no more live. -/
theorem PcR.dead {w : World} {base : Nat} {l : List Pc} {xs : List Value} (h : PcR w base l xs) {k ob : Nat} {live : Bool} {n : Nat} (hk : l[k]? = some (.op false live n)) (ho : xs[k]? = some (opV ob)) : PcR (w.setCell ⟨ob, 1, none⟩ (.bool false)) base (l.set k (.op false false n)) xs := by
  obtain ⟨ob', e1, e2⟩ := h.get k _ _ hk ho
  obtain rfl := opV_inj e1
  have hF : Fr [] w (w.setCell ⟨ob, 1, none⟩ (.bool false)) := Fr.set [] w ⟨ob, 1, none⟩ (.bool false) (.inr (fun cs fz hc => by dsimp only at hc; rw [e2] at hc; cases hc))
  refine ⟨by simp [h.len], fun i q y h1 h2 => ?_, h.ge, h.one⟩
  rw [List.getElem?_set] at h1
  split at h1
  · rename_i e
    subst e
    split at h1
    · cases h1
      rw [ho] at h2; cases h2
      exact ⟨ob, rfl, by simp [World.setCell, Array.getElem?_modify, e2]⟩
    · cases h1
  · rename_i e
    have hv := h.get i q y h1 h2
    cases q with
    | node k s t f =>
      obtain ⟨v, g1, g2⟩ := hv
      exact ⟨v, g1, g2.more hF (fun x hx => .inl hx)⟩
    | run r => exact hv
    | op img lv n' =>
      obtain ⟨o2, g1, g2⟩ := hv
      refine ⟨o2, g1, ?_⟩
      rw [Below.heap_setCell w ⟨ob, 1, none⟩ (.bool false) o2 (fun e' => e (h.one k i ob ho (by rw [h2, g1]; dsimp only at e'; rw [e']; rfl)))]
      exact g2
/-- A row of pieces, to be read. -/
theorem PcR.pcs {w : World} {base B : Nat} {lo : Option Addr} {lc : Nat} {l : List Pc} {xs : List Value} (h : PcR w base l xs) (hr : w.ownsRow B 65 1 (.slice lo l.length lc) l.length xs) (k : Nat) : ∀ (i : Nat) (p : Pc), (l.drop k)[i]? = some p → ∃ b z, lo = some ⟨b, 0, none⟩ ∧ w.cell? ⟨b, k + i, none⟩ = some z ∧ xs[k + i]? = some z ∧ PcV w p z := by
  intro i p hp
  rw [List.getElem?_drop] at hp
  have hlt := (List.getElem?_eq_some_iff.1 hp).1
  obtain ⟨b, cap, hv, _, _⟩ := hr.form (by omega)
  cases hv
  obtain ⟨z, hz⟩ : ∃ z, xs[k + i]? = some z := ⟨_, List.getElem?_eq_getElem (by rw [h.len]; exact hlt)⟩
  have := hr.cells (g := b) rfl (k + i) z hz
  rw [addr0] at this
  exact ⟨b, z, rfl, this, hz, h.get _ _ _ hp hz⟩

/-- A parser. -/
structure Pz (w0 w : World) (pb : Nat) (s : List UInt8) (dv nv : Value) (m : Int) (a : Pa) : Prop where
  ex : ∃ lo lc xs, w.heap[pb]? = some (.cells #[.string (mkB s), .int .i64 (a.at_ : Int), .slice lo a.l.length lc, dv, nv, .int .i64 m] 46 (0, 0)) ∧ w.ownsRow w0.heap.size 65 1 (.slice lo a.l.length lc) a.l.length xs ∧ PcR w w0.heap.size a.l xs
  ge : w0.heap.size ≤ pb
  bl : Bl w0 w
theorem Pz.more {w0 w w' : World} {pb : Nat} {s : List UInt8} {dv nv : Value} {m : Int} {a : Pa} (h : Pz w0 w pb s dv nv m a) (k : Bl w w') : Pz w0 w' pb s dv nv m a := by
  obtain ⟨lo, lc, xs, h1, h2, h3⟩ := h.ex
  exact ⟨⟨lo, lc, xs, by rw [k.block (heap_lt h1)]; exact h1, h2.kept (grownBy_of_bl k none) (by cases (Value.slice lo a.l.length lc).ownBlock <;> simp), h3.keep (Nf.of_bl k)⟩, h.ge, h.bl.trans k⟩
/-- A row's block is no other type's. -/
theorem row_far {w : World} {base : Nat} {e : TypeId} {size n : Nat} {v : Value} {xs : List Value} (h : w.ownsRow base e size v n xs) {b : Nat} {cs : Array Value} {t : TypeId} {fz : Nat × Nat} (hb : w.heap[b]? = some (.cells cs t fz)) (ht : t ≠ e) : v.ownBlock = none ∨ v.ownBlock ≠ some b := by
  rcases h.2 with ⟨h1, _⟩ | ⟨g, cap, cur, h1, _, h3, _⟩
  · rw [h1]; exact .inl rfl
  · right
    rw [h1]
    intro e'
    cases e'
    rw [hb] at h3; cases h3; exact ht rfl
/-- A store into the parser: its place. -/
theorem Pz.at {w0 w : World} {pb : Nat} {s : List UInt8} {dv nv : Value} {m : Int} {a : Pa} (h : Pz w0 w pb s dv nv m a) (n : Nat) : Pz w0 (w.setCell ⟨pb, 1, none⟩ (.int .i64 (n : Int))) pb s dv nv m { a with at_ := n } := by
  obtain ⟨lo, lc, xs, h1, h2, h3⟩ := h.ex
  have hg := grownBy_setCell w ⟨pb, 1, none⟩ (.int .i64 (n : Int))
  refine ⟨⟨lo, lc, xs, by simp [World.setCell, Array.getElem?_modify, h1], h2.kept hg ?_, h3.keep (Nf.set (p := ⟨pb, 1, none⟩) h1 (by decide) (by decide))⟩, h.ge, h.bl.grown hg (fun b hb => by cases hb; exact h.ge)⟩
  exact row_far h2 h1 (by decide)
/-- .. and its pieces: fewer. -/
theorem Pz.cut {w0 w : World} {pb g lc : Nat} {s : List UInt8} {dv nv : Value} {m : Int} {a : Pa} {xs : List Value} (h : Pz w0 w pb s dv nv m a) (h1 : w.heap[pb]? = some (.cells #[.string (mkB s), .int .i64 (a.at_ : Int), .slice (some ⟨g, 0, none⟩) a.l.length lc, dv, nv, .int .i64 m] 46 (0, 0)))
    (h2 : w.ownsRow w0.heap.size 65 1 (.slice (some ⟨g, 0, none⟩) a.l.length lc) a.l.length xs) (h3 : PcR w w0.heap.size a.l xs) {k : Nat} (hk : k ≤ a.l.length) : Pz w0 (w.setCell ⟨pb, 2, none⟩ (.slice (some ⟨g, 0, none⟩) k lc)) pb s dv nv m { a with l := a.l.take k } := by
  have hg := grownBy_setCell w ⟨pb, 2, none⟩ (.slice (some ⟨g, 0, none⟩) k lc)
  have hlk : (a.l.take k).length = k := by rw [List.length_take]; omega
  refine ⟨⟨some ⟨g, 0, none⟩, lc, xs.take k, by rw [hlk]; simp [World.setCell, Array.getElem?_modify, h1], ?_, (h3.take k).keep (Nf.set (p := ⟨pb, 2, none⟩) h1 (by decide) (by decide))⟩, h.ge, h.bl.grown hg (fun b hb => by cases hb; exact h.ge)⟩
  have hcut := ownsRow_cut (m := k) (xs := xs.take k) (ys := xs.drop k) (by rw [List.take_append_drop]; exact h2) hk (by rw [List.length_take, h3.len]; omega)
  dsimp only
  rw [hlk]
  exact hcut.kept hg (row_far hcut h1 (by decide))
/-- .. one more. -/
theorem Pz.app {w0 w w1 w2 : World} {pb lc g cap : Nat} {lo : Option Addr} {s : List UInt8} {dv nv : Value} {m : Int} {a : Pa} {xs : List Value} {p : Pc} {x : Value} (h : Pz w0 w pb s dv nv m a) (hb : Bl w w1) (h1 : w.heap[pb]? = some (.cells #[.string (mkB s), .int .i64 (a.at_ : Int), .slice lo a.l.length lc, dv, nv, .int .i64 m] 46 (0, 0)))
    (h2 : w.ownsRow w0.heap.size 65 1 (.slice lo a.l.length lc) a.l.length xs) (h3 : PcR w w0.heap.size a.l xs) (hg : w1.grownBy w2 (Value.slice lo a.l.length lc).ownBlock) (hown : w2.ownsRow w0.heap.size 65 1 (.slice (some ⟨g, 0, none⟩) (a.l.length + 1) cap) (a.l.length + 1) (xs ++ [x]))
    (hx : PcV w1 p x) (hn : ∀ b : Nat, x = opV b → w0.heap.size ≤ b ∧ ∀ i : Nat, xs[i]? ≠ some (opV b)) :
    Pz w0 (w2.setCell ⟨pb, 2, none⟩ (.slice (some ⟨g, 0, none⟩) (a.l.length + 1) cap)) pb s dv nv m { a with l := a.l ++ [p] } ∧ w2.cell? ⟨pb, 2, none⟩ = some (.slice lo a.l.length lc) ∧ w2.frozen? ⟨pb, 2, none⟩ = false := by
  have k1 : w1.ownsRow w0.heap.size 65 1 (.slice lo a.l.length lc) a.l.length xs := h2.kept (grownBy_of_bl hb none) (by cases (Value.slice lo a.l.length lc).ownBlock <;> simp)
  have e1 : w1.heap[pb]? = some (.cells #[.string (mkB s), .int .i64 (a.at_ : Int), .slice lo a.l.length lc, dv, nv, .int .i64 m] 46 (0, 0)) := by rw [hb.block (heap_lt h1)]; exact h1
  have e2 : w2.heap[pb]? = some (.cells #[.string (mkB s), .int .i64 (a.at_ : Int), .slice lo a.l.length lc, dv, nv, .int .i64 m] 46 (0, 0)) := by
    rw [hg.block pb (heap_lt e1) (fun e => by
      rcases row_far k1 e1 (by decide) with h | h
      · rw [h] at e; cases e
      · exact h e.symm)]
    exact e1
  have hN : Nf w1 w2 := Nf.of_grown hg (fun k hk => by
    rcases k1.2 with ⟨h', _⟩ | ⟨g', cap', cur, h', _, hh, _⟩
    · rw [h'] at hk; cases hk
    · rw [h'] at hk; cases hk; exact ⟨_, _, _, hh, by decide, by decide⟩)
  have hg2 := grownBy_setCell w2 ⟨pb, 2, none⟩ (.slice (some ⟨g, 0, none⟩) (a.l.length + 1) cap)
  have hR : PcR w2 w0.heap.size (a.l ++ [p]) (xs ++ [x]) := ((h3.keep (Nf.of_bl hb)).snoc hx hn).keep hN
  have hll : (a.l ++ [p]).length = a.l.length + 1 := by simp
  refine ⟨⟨⟨some ⟨g, 0, none⟩, cap, xs ++ [x], by simp [World.setCell, Array.getElem?_modify, e2], ?_, hR.keep (Nf.set (p := ⟨pb, 2, none⟩) e2 (by decide) (by decide))⟩, h.ge, ?_⟩, by rw [Lib.cell_of_heap e2]; rfl, Lib.frozen_of_heap e2 2⟩
  · dsimp only
    rw [hll]
    exact hown.kept hg2 (row_far hown e2 (by decide))
  · exact ((h.bl.trans hb).grown hg (fun b hb' => (h2.lt b hb').1)).grown hg2 (fun b hb => by cases hb; exact h.ge)
/-- A store into the row of pieces. -/
theorem Pz.put {w0 w w1 : World} {pb lc g : Nat} {s : List UInt8} {dv nv : Value} {m : Int} {a : Pa} {xs : List Value} {p : Pc} {x : Value} (h : Pz w0 w pb s dv nv m a) (hb : Bl w w1) (h1 : w.heap[pb]? = some (.cells #[.string (mkB s), .int .i64 (a.at_ : Int), .slice (some ⟨g, 0, none⟩) a.l.length lc, dv, nv, .int .i64 m] 46 (0, 0)))
    (h2 : w.ownsRow w0.heap.size 65 1 (.slice (some ⟨g, 0, none⟩) a.l.length lc) a.l.length xs) (h3 : PcR w w0.heap.size a.l xs) {k : Nat} (hk : k < a.l.length) (hx : PcV w1 p x) (hn : ∀ b : Nat, x ≠ opV b) : Pz w0 (w1.setCell ⟨g, k, none⟩ x) pb s dv nv m { a with l := a.l.set k p } := by
  have hg := grownBy_setCell w1 ⟨g, k, none⟩ x
  have k1 : w1.ownsRow w0.heap.size 65 1 (.slice (some ⟨g, 0, none⟩) a.l.length lc) a.l.length xs := h2.kept (grownBy_of_bl hb none) (by simp [Value.ownBlock])
  have e1 : w1.heap[pb]? = some (.cells #[.string (mkB s), .int .i64 (a.at_ : Int), .slice (some ⟨g, 0, none⟩) a.l.length lc, dv, nv, .int .i64 m] 46 (0, 0)) := by rw [hb.block (heap_lt h1)]; exact h1
  obtain ⟨cur, hcur⟩ := row_block k1
  have hne : g ≠ pb := fun e => by rw [e, e1] at hcur; cases hcur
  have hs := ownsRow_set1 k1 (i := k) (by rw [h3.len]; exact hk) x
  refine ⟨⟨some ⟨g, 0, none⟩, lc, xs.set k x, ?_, by simpa using hs, (((h3.keep (Nf.of_bl hb)).set k hx hn).keep (Nf.set (p := ⟨g, k, none⟩) hcur (by decide) (by decide)))⟩, h.ge, (h.bl.trans hb).grown hg (fun b hb => by cases hb; exact (h2.lt g rfl).1)⟩
  rw [hg.block pb (heap_lt e1) (fun e => hne (Option.some.inj e).symm)]
  simpa using e1
/-- A store into an opener. -/
theorem Pz.dead {w0 w : World} {pb lc k ob : Nat} {lo : Option Addr} {s : List UInt8} {dv nv : Value} {m : Int} {a : Pa} {xs : List Value} {live : Bool} {n : Nat} (h : Pz w0 w pb s dv nv m a) (h1 : w.heap[pb]? = some (.cells #[.string (mkB s), .int .i64 (a.at_ : Int), .slice lo a.l.length lc, dv, nv, .int .i64 m] 46 (0, 0)))
    (h2 : w.ownsRow w0.heap.size 65 1 (.slice lo a.l.length lc) a.l.length xs) (h3 : PcR w w0.heap.size a.l xs) (hk : a.l[k]? = some (.op false live n)) (ho : xs[k]? = some (opV ob)) : Pz w0 (w.setCell ⟨ob, 1, none⟩ (.bool false)) pb s dv nv m { a with l := a.l.set k (.op false false n) } := by
  have hg := grownBy_setCell w ⟨ob, 1, none⟩ (.bool false)
  obtain ⟨ob', e1, e2⟩ := h3.get k _ _ hk ho
  obtain rfl := opV_inj e1
  refine ⟨⟨lo, lc, xs, ?_, by simpa using h2.kept hg (row_far h2 e2 (by decide)), h3.dead hk ho⟩, h.ge, h.bl.grown hg (fun b hb => by cases hb; exact h3.ge k _ ho)⟩
  rw [hg.block pb (heap_lt h1) (fun e => by have := Option.some.inj e; dsimp only at this; rw [this, e2] at h1; cases h1)]
  simpa using h1
end Go.Proofs.YtjocbifjmchbcaaGreatDoor
/- The parser's own: rest, add, blanks. -/
namespace Go.Proofs.YtjocbifjmchbcaaGreatDoor
open Go.RowKit

theorem infoPiece : (Tryz.prog.info? 65).map (fun i => (i.zero, i.size, i.bytes)) = some (some .nilIface, 1, 16) := by kernel_rfl
theorem extract_mk (l : List UInt8) (i j : Nat) : (mkB l).extract i j = mkB ((l.take j).drop i) := by
  apply str_eq
  rw [Lib.extract_data, mkB_data, mkB_data, List.drop_take]
set_option maxHeartbeats 1000000 in
theorem rest_any (w0 w : World) (pb : Nat) (s : List UInt8) (dv nv : Value) (m : Int) (a : Pa) (hZ : Pz w0 w pb s dv nv m a) (ha : a.at_ ≤ s.length) :
    Calls Tryz.prog 35 #[.pointer (some ⟨pb, 0, none⟩)] w fun e w' => e = .returned (.string (mkB (s.drop a.at_))) ∧ Bl w w' := by
  obtain ⟨lo, lc, xs, h1, _, _⟩ := hZ.ex
  have hb := heap_lt h1
  have c0 : w.cell? ⟨pb, 0, none⟩ = some (.string (mkB s)) := by rw [Lib.cell_of_heap h1]; rfl
  have c1 : w.cell? ⟨pb, 1, none⟩ = some (.int .i64 (a.at_ : Int)) := by rw [Lib.cell_of_heap h1]; rfl
  have hs := mkB_size s
  obtain ⟨S, hS⟩ : ∃ S, mkB s = S := ⟨_, rfl⟩
  have hX : S.extract a.at_ S.size = mkB (s.drop a.at_) := by
    rw [← hS, extract_mk, mkB_size, List.take_length]
  rw [← hX]
  rw [hS] at hs c0
  have i1 : (0 : Int) ≤ (a.at_ : Int) := Int.natCast_nonneg _
  have i2 : (a.at_ : Int) ≤ (S.size : Int) := by omega
  have i3 : a.at_ ≤ S.size := by omega
  obtain ⟨q, hq⟩ : ∃ q, a.at_ = q := ⟨_, rfl⟩
  rw [hq] at c1 i1 i2 i3 ⊢
  clear hX hS h1 hZ hs
  go_enter Tryz.func35, Tryz.ntmps35
  go_wp2_with fail
  repeat (go_quiet (fail); try go_wp2)
  go_ret
  exact ⟨rfl, (Bl.refl _).drewN _⟩
set_option maxRecDepth 100000 in
set_option maxHeartbeats 4000000 in
theorem padd_any (w0 w : World) (pb : Nat) (s : List UInt8) (dv nv : Value) (m : Int) (a : Pa) (hZ : Pz w0 w pb s dv nv m a) (k : Nat) (x y : List UInt8) (v : Value) (l : Fo) (hR : Rep w [] v l) (n : Nat) (hl : a.l.length ≤ 1000000) (ha : a.at_ ≤ 1000000) (hn : n ≤ 1000000) :
    Calls Tryz.prog 63 #[.pointer (some ⟨pb, 0, none⟩), .agg #[.int .i64 (k : Int), .string (mkB x), .string (mkB y), .int .i64 0, .int .i64 0, .bool false, v], .int .i64 (n : Int)] w fun e w' => e = .returned (.tuple #[]) ∧ Pz w0 w' pb s dv nv m (a.add k x y l n) := by
  obtain ⟨lo, lc, xs, h1, h2, h3⟩ := hZ.ex
  obtain ⟨ip, hip, hpz, hps, hpb⟩ := info_parts infoPiece
  obtain ⟨va, vc, rfl⟩ := hR.slice
  have hb := heap_lt h1
  have cp : w.cell? ⟨pb, 2, none⟩ = some (.slice lo a.l.length lc) := by rw [Lib.cell_of_heap h1]; rfl
  go_enter Tryz.func63, Tryz.ntmps63
  go_wp2_with fail
  have hbl : Bl w (w.alloc (.cells #[.int .i64 (k : Int), .string (mkB x), .string (mkB y), .int .i64 0, .int .i64 0, .bool false, .slice va l.len vc] 27)) := (Bl.refl w).alloc _
  have hbox := heap_alloc_new w (.cells #[.int .i64 (k : Int), .string (mkB x), .string (mkB y), .int .i64 0, .int .i64 0, .bool false, .slice va l.len vc] 27)
  obtain ⟨w1, hw1⟩ : ∃ w1, w.alloc (.cells #[.int .i64 (k : Int), .string (mkB x), .string (mkB y), .int .i64 0, .int .i64 0, .bool false, .slice va l.len vc] 27) = w1 := ⟨_, rfl⟩
  obtain ⟨nb, hnb⟩ : ∃ nb, w.heap.size = nb := ⟨_, rfl⟩
  rw [hw1] at hbl hbox ⊢
  rw [hnb] at hbox ⊢
  clear hw1 hnb
  have b0 : w1.cell? ⟨nb, 0, none⟩ = some (.int .i64 (k : Int)) := by rw [Lib.cell_of_heap hbox]; rfl
  have b1 : w1.cell? ⟨nb, 1, none⟩ = some (.string (mkB x)) := by rw [Lib.cell_of_heap hbox]; rfl
  have b2 : w1.cell? ⟨nb, 2, none⟩ = some (.string (mkB y)) := by rw [Lib.cell_of_heap hbox]; rfl
  have b3 : w1.cell? ⟨nb, 3, none⟩ = some (.int .i64 0) := by rw [Lib.cell_of_heap hbox]; rfl
  have b4 : w1.cell? ⟨nb, 4, none⟩ = some (.int .i64 0) := by rw [Lib.cell_of_heap hbox]; rfl
  have b5 : w1.cell? ⟨nb, 5, none⟩ = some (.bool false) := by rw [Lib.cell_of_heap hbox]; rfl
  have b6 : w1.cell? ⟨nb, 6, none⟩ = some (.slice va l.len vc) := by rw [Lib.cell_of_heap hbox]; rfl
  have cp1 : w1.cell? ⟨pb, 2, none⟩ = some (.slice lo a.l.length lc) := hbl.cell cp
  have h2' : w1.ownsRow w0.heap.size 65 1 (.slice lo a.l.length lc) a.l.length xs := h2.kept (grownBy_of_bl hbl none) (by cases (Value.slice lo a.l.length lc).ownBlock <;> simp)
  have hsz := hZ.bl.size
  have hR1 := hR.bl hbl
  have hx1 : ∀ W, Bl w1 W → PcV W (.node k x y l) (.iface 77 (.agg #[.int .i64 (k : Int), .string (mkB x), .string (mkB y), .int .i64 0, .int .i64 0, .bool false, .slice va l.len vc])) := fun W hW => ⟨_, rfl, hR1.bl hW⟩
  have hno : some nb ≠ (Value.slice lo a.l.length lc).ownBlock := fun e => by
    rcases row_far h2' hbox (by decide) with h | h
    · rw [h] at e; cases e
    · exact h e.symm
  have hnlt := heap_lt hbox
  have hHeld : (fun w' : World => w'.cell? ⟨pb, 2, none⟩ = some (.slice lo a.l.length lc) ∧ w'.cell? ⟨nb, 0, none⟩ = some (.int .i64 (k : Int)) ∧ w'.cell? ⟨nb, 1, none⟩ = some (.string (mkB x)) ∧ w'.cell? ⟨nb, 2, none⟩ = some (.string (mkB y)) ∧ w'.cell? ⟨nb, 3, none⟩ = some (.int .i64 0) ∧ w'.cell? ⟨nb, 4, none⟩ = some (.int .i64 0) ∧ w'.cell? ⟨nb, 5, none⟩ = some (.bool false) ∧ w'.cell? ⟨nb, 6, none⟩ = some (.slice va l.len vc)) w1.drew := ⟨cp1, b0, b1, b2, b3, b4, b5, b6⟩
  refine wp_region_n (fun w' : World => w'.cell? ⟨pb, 2, none⟩ = some (.slice lo a.l.length lc) ∧ w'.cell? ⟨nb, 0, none⟩ = some (.int .i64 (k : Int)) ∧ w'.cell? ⟨nb, 1, none⟩ = some (.string (mkB x)) ∧ w'.cell? ⟨nb, 2, none⟩ = some (.string (mkB y)) ∧ w'.cell? ⟨nb, 3, none⟩ = some (.int .i64 0) ∧ w'.cell? ⟨nb, 4, none⟩ = some (.int .i64 0) ∧ w'.cell? ⟨nb, 5, none⟩ = some (.bool false) ∧ w'.cell? ⟨nb, 6, none⟩ = some (.slice va l.len vc)) [0, 1, 2, 3, 4, 5, 6, 7] (by kernel_rfl) ?_
  refine wpAnyN_take (i := 0) (v := ?rv1) rfl (by kernel_rfl) (by kernel_rfl) (by kernel_rfl) (by kernel_rfl) (by kernel_rfl) (fun _ _ _ h => h) (Or.inl ⟨by rfl, ?rh1⟩) hHeld ?_
  case rh1 => (intro w hSw; (try dsimp only at hSw); go_simp; try with_reducible rfl)
  refine wpAnyN_take (i := 1) (v := ?rv2) rfl (by kernel_rfl) (by kernel_rfl) (by kernel_rfl) (by kernel_rfl) (by kernel_rfl) (fun _ _ _ h => h) (Or.inl ⟨by rfl, ?rh2⟩) hHeld ?_
  case rh2 => (intro w hSw; (try dsimp only at hSw); go_simp; try with_reducible rfl)
  refine wpAnyN_take (i := 2) (v := ?rv3) rfl (by kernel_rfl) (by kernel_rfl) (by kernel_rfl) (by kernel_rfl) (by kernel_rfl) (fun _ _ _ h => h) (Or.inl ⟨by rfl, ?rh3⟩) hHeld ?_
  case rh3 => (intro w hSw; (try dsimp only at hSw); go_simp; try with_reducible rfl)
  refine wpAnyN_take (i := 3) (v := ?rv4) rfl (by kernel_rfl) (by kernel_rfl) (by kernel_rfl) (by kernel_rfl) (by kernel_rfl) (fun _ _ _ h => h) (Or.inl ⟨by rfl, ?rh4⟩) hHeld ?_
  case rh4 => (intro w hSw; (try dsimp only at hSw); go_simp; try with_reducible rfl)
  refine wpAnyN_take (i := 4) (v := ?rv5) rfl (by kernel_rfl) (by kernel_rfl) (by kernel_rfl) (by kernel_rfl) (by kernel_rfl) (fun _ _ _ h => h) (Or.inl ⟨by rfl, ?rh5⟩) hHeld ?_
  case rh5 => (intro w hSw; (try dsimp only at hSw); go_simp; try with_reducible rfl)
  refine wpAnyN_take (i := 5) (v := ?rv6) rfl (by kernel_rfl) (by kernel_rfl) (by kernel_rfl) (by kernel_rfl) (by kernel_rfl) (fun _ _ _ h => h) (Or.inl ⟨by rfl, ?rh6⟩) hHeld ?_
  case rh6 => (intro w hSw; (try dsimp only at hSw); go_simp; try with_reducible rfl)
  refine wpAnyN_take (i := 6) (v := ?rv7) rfl (by kernel_rfl) (by kernel_rfl) (by kernel_rfl) (by kernel_rfl) (by kernel_rfl) (fun _ _ _ h => h) (Or.inl ⟨by rfl, ?rh7⟩) hHeld ?_
  case rh7 => (intro w hSw; (try dsimp only at hSw); go_simp; try with_reducible rfl)
  refine wpAnyN_take (i := 7) (v := ?rv8) rfl (by kernel_rfl) (by kernel_rfl) (by kernel_rfl) (by kernel_rfl) (by kernel_rfl) (fun _ _ _ h => h) (Or.inl ⟨by rfl, ?rh8⟩) hHeld ?_
  case rh8 => (intro w hSw; (try dsimp only at hSw); go_simp; try with_reducible rfl)
  refine wpAnyN_ready (rs := [8]) (by kernel_rfl) (by simp) ?_
  refine AllN.cons rfl (fun K rK9 => ?_) ?_
  · go_simp
    refine rK9.go _ _ (⟨Lib.cell?_alloc_some _ cp1, Lib.cell?_alloc_some _ b0, Lib.cell?_alloc_some _ b1, Lib.cell?_alloc_some _ b2, Lib.cell?_alloc_some _ b3, Lib.cell?_alloc_some _ b4, Lib.cell?_alloc_some _ b5, Lib.cell?_alloc_some _ b6⟩) (fun rS9 => ?_)
    clear rK9 K
    refine wpAnyN_ready (rs := [9]) (by kernel_rfl) (by simp) ?_
    refine AllN.cons rfl (fun K rK10 => ?_) ?_
    · refine step_append_lies _ (by rfl) _ _ _ (by rfl) w0.heap.size 65 ip _ 1 16 Tryz.underlying44 hip hpz hps hpb rfl (by omega) (.slice lo a.l.length lc) a.l.length xs (by rfl) ((h2'.alloc _).drew)
        ⟨w1.heap.size, 0, none⟩ 1 1 [.iface 77 (.agg #[.int .i64 (k : Int), .string (mkB x), .string (mkB y), .int .i64 0, .int .i64 0, .bool false, .slice va l.len vc])] (by rfl) (by rfl) (World.news_of_block (cs := #[.iface 77 (.agg #[.int .i64 (k : Int), .string (mkB x), .string (mkB y), .int .i64 0, .int .i64 0, .bool false, .slice va l.len vc])]) (t := 65) (fr := (0, 0)) (heap_alloc_new w1 _)) (by simp [Value.oneCell'])
        (by omega) (by unfold maxLen; omega) (by omega) (by have := hbl.size; simp; omega) (w1.heap.size + 1) (by simp) ?_
      intro gg cap1 w2 hown1 hgrow hat hlt
      obtain ⟨hZ2, e0, ez⟩ := hZ.app (p := .node k x y l) (((hbl.alloc _).drew)) h1 h2 h3 hgrow hown1 (hx1 _ (((Bl.refl w1).alloc _).drew)) (fun b hb => by unfold opV at hb; cases hb)
      refine rK10.go _ _ (⟨e0, (hgrow.cell_far ⟨nb, 0, none⟩ (by simp; omega) hno).trans (Lib.cell?_alloc_some _ b0), (hgrow.cell_far ⟨nb, 1, none⟩ (by simp; omega) hno).trans (Lib.cell?_alloc_some _ b1), (hgrow.cell_far ⟨nb, 2, none⟩ (by simp; omega) hno).trans (Lib.cell?_alloc_some _ b2), (hgrow.cell_far ⟨nb, 3, none⟩ (by simp; omega) hno).trans (Lib.cell?_alloc_some _ b3), (hgrow.cell_far ⟨nb, 4, none⟩ (by simp; omega) hno).trans (Lib.cell?_alloc_some _ b4), (hgrow.cell_far ⟨nb, 5, none⟩ (by simp; omega) hno).trans (Lib.cell?_alloc_some _ b5), (hgrow.cell_far ⟨nb, 6, none⟩ (by simp; omega) hno).trans (Lib.cell?_alloc_some _ b6)⟩) (fun rS10 => ?_)
      clear rK10 K
      refine wpAnyN_pass (i := 10) (v := ?rv11) rfl (by kernel_rfl) (by kernel_rfl) (by kernel_rfl) (by kernel_rfl) (fun _ _ _ h => h) (Or.inl ⟨by rfl, ?rh11⟩) ?_
      case rh11 => (intro w; go_simp; try with_reducible rfl)
      refine wpAnyN_pass (i := 11) (v := ?rv12) rfl (by kernel_rfl) (by kernel_rfl) (by kernel_rfl) (by kernel_rfl) (fun _ _ _ h => h) (Or.inl ⟨by rfl, ?rh12⟩) ?_
      case rh12 => (intro w; go_simp; try with_reducible rfl)
      refine wpAnyN_ready (rs := [12]) (by kernel_rfl) (by simp) ?_
      refine AllN.cons rfl (fun K rK13 => ?_) ?_
      · go_simp
        refine rK13.out _ _ (not_early (by kernel_rfl)) ?_
        clear rK13 K
        refine wpAnyN_done (by kernel_rfl) ?_ _
        obtain ⟨w3, hw3⟩ : ∃ w3, w2.setCell ⟨pb, 2, none⟩ (.slice (some ⟨gg, 0, none⟩) (a.l.length + 1) cap1) = w3 := ⟨_, rfl⟩
        rw [hw3] at hZ2 ⊢
        have hF := hZ2.ex
        obtain ⟨lo3, lc3, xs3, g1, _, _⟩ := hF
        have d1 : w3.cell? ⟨pb, 1, none⟩ = some (.int .i64 (a.at_ : Int)) := by rw [Lib.cell_of_heap g1]; rfl
        have dz : w3.frozen? ⟨pb, 1, none⟩ = false := Lib.frozen_of_heap g1 1
        have hE := hZ2.at (a.at_ + n)
        rw [Int.natCast_add] at hE
        clear hw3 g1 hZ2
        go_wp2_with fail
        go_end0
        exact ⟨rfl, hE⟩
      exact AllN.nil
    exact AllN.nil
  exact AllN.nil
end Go.Proofs.YtjocbifjmchbcaaGreatDoor
/- The contract of inline.cutLeft. -/
namespace Go.Proofs.YtjocbifjmchbcaaGreatDoor
open Go.RowKit

set_option maxHeartbeats 1000000 in
theorem cutI_any (s p : ByteArray) (w : World) (_hs : s.size ≤ 1000000) (_hp : p.size ≤ 1000) (ha : ∀ b ∈ p.data.toList, b.toNat < 128) :
    Calls Tryz.prog 103 #[.string s, .string p] w fun e w' => e = .returned (.string (mkB (cutL p.data.toList s.data.toList))) ∧ Bl w w' := by
  have HA := Lib.hid ha
  clear ha
  go_enter Tryz.func103, Tryz.ntmps103
  go_wp2
  go_loopw [] (fun wr => ∃ k : Nat, k ≤ s.size ∧ wr.heap[w.heap.size]? = some (.stringIter s k) ∧ Bl w wr ∧ Hid ((s.data.toList.take k).all (p.data.toList.contains ·) = true)) (fun wr => s.size - wr.iterPos w.heap.size)
  case atStart =>
    exact ⟨0, Nat.zero_le _, by simpa using World.iter_heap w s 0, ⟨(Below.refl _ w).alloc (Nat.le_refl _) _⟩, Lib.hid (by simp)⟩
  case round =>
    obtain ⟨k, hk, hit, hb, hall⟩ := hrel
    have hsz : w.heap.size < wr.heap.size := (Array.getElem?_eq_some_iff.1 hit).1
    by_cases hlt : k < s.size
    · have hnx : ∀ ty, (Instr.next (.pointer (some ⟨w.heap.size, 0, none⟩)) true ty).run Tryz.prog wr = _ := fun ty => Lib.run_next_any_at wr w.heap.size s k ty hit hlt
      obtain ⟨n, hn⟩ : ∃ n, (Utf8.decode s k).2 = n := ⟨_, rfl⟩
      obtain ⟨r, hr⟩ : ∃ r, (Utf8.decode s k).1 = r := ⟨_, rfl⟩
      rw [hn, hr] at hnx
      have hin := in_set s p HA.out k hlt
      have h1 := in_one s p HA.out k hlt
      rw [hr] at hin
      rw [hn] at h1
      have hb2 : Bl w (wr.iterAt w.heap.size s (k + n)) := ⟨Lib.below_iterAt hb.out (Nat.le_refl _) s (k + n)⟩
      have hit2 := Lib.iterAt_heap wr w.heap.size s k (k + n) hit
      have hz2 : (wr.iterAt w.heap.size s (k + n)).heap.size = wr.heap.size := Lib.iterAt_size ..
      have HN := Lib.hid hin
      have H1 := Lib.hid h1
      have HK := Lib.hid (take_succ_all s (p.data.toList.contains ·) k hlt)
      clear hn hr hin h1
      obtain ⟨w2, hw2⟩ : ∃ w2, wr.iterAt w.heap.size s (k + n) = w2 := ⟨_, rfl⟩
      rw [hw2] at hnx hb2 hit2 hz2
      have Z2 := Lib.hid hz2
      have hlt2 : w.heap.size < w2.heap.size := by omega
      clear hz2 hw2
      obtain ⟨wo, rfl⟩ : ∃ wo : World, wo = wr := ⟨_, rfl⟩
      go_wp2
      go_loopw [7] (fun v wi => ∃ j : Nat, j ≤ p.size ∧ wi.heap[w2.heap.size]? = some (.stringIter p j) ∧ wi.heap[w.heap.size]? = some (.stringIter s (k + n)) ∧ Bl w wi ∧ v = .bool (inB p j r)) (fun _ wi => p.size - wi.iterPos w2.heap.size)
      case atStart =>
        refine ⟨0, Nat.zero_le _, by simpa using World.iter_heap w2 p 0, ?_, hb2.trans ⟨(Below.refl _ w2).alloc (Nat.le_refl _) _⟩, by rw [inB_zero]⟩
        have hx : Bl w2 (w2.iter p 0) := ⟨(Below.refl _ w2).alloc (Nat.le_refl _) _⟩
        rw [hx.block hlt2]; exact hit2
      case round =>
        obtain ⟨j, hj, hjt, hit3, hb3, rfl⟩ := hrel
        by_cases hjl : j < p.size
        · have hja : (p[j]'hjl).toNat < 128 := HA.out _ (by rw [← Array.mem_def]; exact Array.getElem_mem (by simpa using hjl))
          have hnx2 : ∀ ty, (Instr.next (.pointer (some ⟨w2.heap.size, 0, none⟩)) true ty).run Tryz.prog wr = _ := fun ty => Lib.run_next_ascii_at wr w2.heap.size p j ty hjt hjl hja
          have hb4 : Bl w (wr.iterAt w2.heap.size p (j + 1)) := ⟨Lib.below_iterAt hb3.out (by omega) p (j + 1)⟩
          have hit4 := Lib.iterAt_heap wr w2.heap.size p j (j + 1) hjt
          have hit5 : (wr.iterAt w2.heap.size p (j + 1)).heap[w.heap.size]? = some (.stringIter s (k + n)) := by
            rw [Lib.iterAt_other _ _ _ _ _ (by omega)]; exact hit3
          have HS := Lib.hid (inB_succ p j r hjl)
          obtain ⟨b, hbv⟩ : ∃ b, inB p j r = b := ⟨_, rfl⟩
          obtain ⟨c, hcv⟩ : ∃ c : Bool, ((r : Int) == (p[j].toNat : Int)) = c := ⟨_, rfl⟩
          rw [hbv, hcv] at HS
          rw [hbv]
          have B1 := Lib.hid hbv
          clear hbv hja
          obtain ⟨w4, hw4⟩ : ∃ w4, wr.iterAt w2.heap.size p (j + 1) = w4 := ⟨_, rfl⟩
          rw [hw4] at hnx2 hb4 hit4 hit5
          have W4 := Lib.hid hw4
          clear hw4
          cases b with
          | true =>
            go_wp2
            go_roundw
            case rel => exact ⟨j + 1, by omega, hit4, hit5, hb4, by rw [HS.out]; rfl⟩
            case measure => simp only [World.iterPos, hit4, hjt]; omega
          | false =>
            cases c with
            | true =>
              go_wp2
              go_roundw
              case rel => exact ⟨j + 1, by omega, hit4, hit5, hb4, by rw [HS.out]; rfl⟩
              case measure => simp only [World.iterPos, hit4, hjt]; omega
            | false =>
              go_wp2
              go_roundw
              case rel => exact ⟨j + 1, by omega, hit4, hit5, hb4, by rw [HS.out]; rfl⟩
              case measure => simp only [World.iterPos, hit4, hjt]; omega
        · have hnx2 : ∀ ty, (Instr.next (.pointer (some ⟨w2.heap.size, 0, none⟩)) true ty).run Tryz.prog wr = _ := fun ty => Lib.run_next_end_at wr w2.heap.size p j ty hjt hjl
          have hf := (inB_full p r j (by omega)).trans HN.out
          cases hc : p.data.toList.contains s[k] with
          | true =>
            rw [hc] at hf
            rw [hf]
            have F := Lib.hid hf
            have e1 := H1.out hc
            subst e1
            have C := Lib.hid hc
            clear hf hc
            go_wp2
            go_roundw
            case rel => exact ⟨k + 1, by omega, hit3, hb3, Lib.hid (by rw [HK.out, hall.out, C.out]; rfl)⟩
            case measure => simp only [World.iterPos, hit3, hit]; omega
          | false =>
            rw [hc] at hf
            rw [hf]
            have C := Lib.hid hc
            clear hf hc
            go_wp2
            go_ret
            refine ⟨ret_str ?_, hb3⟩
            refine str_eq ?_
            rw [Lib.extract_to_end, mkB_data, cutL, dropWhile_stop _ _ k (by rw [size_len]; exact hk) hall.out]
            intro a ha2
            have : a = s[k] := Option.some.inj (ha2.symm.trans (at_some s k hlt))
            rw [this]; exact C.out
    · have hnx : ∀ ty, (Instr.next (.pointer (some ⟨w.heap.size, 0, none⟩)) true ty).run Tryz.prog wr = _ := fun ty => Lib.run_next_end_at wr w.heap.size s k ty hit hlt
      go_wp2
      go_ret
      refine ⟨ret_str ?_, hb⟩
      have h := hall.out
      rw [List.take_of_length_le (by rw [size_len]; omega)] at h
      unfold cutL
      rw [(dropWhile_nil _ _).mpr (List.all_eq_true.mp h)]; rfl

end Go.Proofs.YtjocbifjmchbcaaGreatDoor
/- The parser's blanks. -/
namespace Go.Proofs.YtjocbifjmchbcaaGreatDoor
open Go.RowKit

theorem blanks_len (s : List UInt8) (n : Nat) (h : n ≤ s.length) : ((mkB s).size : Int) - ((mkB (cutL [32, 9] (s.drop n))).size : Int) = ((n + blankN (s.drop n) : Nat) : Int) := by
  rw [mkB_size, mkB_size]
  have := congrArg List.length (List.takeWhile_append_dropWhile (p := ([32, 9].contains ·)) (l := s.drop n))
  rw [List.length_append, List.length_drop] at this
  unfold cutL blankN
  omega
theorem blankN_le (l : List UInt8) : blankN l ≤ l.length := (List.takeWhile_sublist _).length_le
set_option maxRecDepth 100000 in
set_option maxHeartbeats 4000000 in
theorem blanks_any (w0 w : World) (pb : Nat) (s : List UInt8) (dv nv : Value) (m : Int) (a : Pa) (hZ : Pz w0 w pb s dv nv m a) (ha : a.at_ ≤ s.length) (hs : s.length ≤ 1000000) :
    Calls Tryz.prog 64 #[.pointer (some ⟨pb, 0, none⟩)] w fun e w' => e = .returned (.tuple #[]) ∧ Pz w0 w' pb s dv nv m (a.blanks s) := by
  have hEq := blanks_len s a.at_ ha
  obtain ⟨lo, lc, xs, h1, _, _⟩ := hZ.ex
  have hb := heap_lt h1
  have c0 : w.cell? ⟨pb, 0, none⟩ = some (.string (mkB s)) := by rw [Lib.cell_of_heap h1]; rfl
  have c1 : w.cell? ⟨pb, 1, none⟩ = some (.int .i64 (a.at_ : Int)) := by rw [Lib.cell_of_heap h1]; rfl
  have HR := rest_any w0 w.drew pb s dv nv m a (hZ.more (Bl.refl w).drew) ha
  obtain ⟨T, hT⟩ : ∃ T, mkB (s.drop a.at_) = T := ⟨_, rfl⟩
  have hTs : T.size ≤ 1000000 := by rw [← hT, mkB_size, List.length_drop]; omega
  have hC := fun W => cutI_any T ⟨#[32, 9]⟩ W hTs (by decide) (by decide)
  rw [hT] at HR
  obtain ⟨S, hS⟩ : ∃ S, mkB s = S := ⟨_, rfl⟩
  obtain ⟨U, hU⟩ : ∃ U, mkB (cutL [32, 9] (s.drop a.at_)) = U := ⟨_, rfl⟩
  have hC : ∀ W, Calls Tryz.prog 103 #[.string T, .string ⟨#[32, 9]⟩] W fun e w' => e = .returned (.string U) ∧ Bl W w' := by
    intro W
    have := hC W
    rw [← hT, mkB_data] at this
    rw [← hU, ← hT]
    exact this
  have hSs : S.size ≤ 1000000 := by rw [← hS, mkB_size]; exact hs
  have hUs : U.size ≤ 1000000 := by
    rw [← hU, mkB_size]
    have := (List.dropWhile_sublist (l := s.drop a.at_) ([32, 9].contains ·)).length_le
    rw [List.length_drop] at this
    unfold cutL; omega
  rw [hS] at c0
  rw [hS, hU] at hEq
  have hfz : ∀ W, Bl w W → W.cell? ⟨pb, 1, none⟩ = some (.int .i64 (a.at_ : Int)) ∧ W.frozen? ⟨pb, 1, none⟩ = false := fun W hW => ⟨hW.cell c1, Lib.frozen_of_heap ((hW.block hb).trans h1) 1⟩
  have hfin : ∀ W, Bl w W → Pz w0 (W.setCell ⟨pb, 1, none⟩ (.int .i64 ((S.size : Int) - (U.size : Int)))) pb s dv nv m (a.blanks s) := fun W hW => by
    rw [hEq]
    exact (hZ.more hW).at _
  clear hEq hT hS hU h1 hZ
  go_enter Tryz.func64, Tryz.ntmps64
  go_wp2_with fail
  have hHeld : (fun w' : World => w'.cell? ⟨pb, 0, none⟩ = some (.string S)) w.drew := c0
  refine wp_region_n (fun w' : World => w'.cell? ⟨pb, 0, none⟩ = some (.string S)) [0, 1, 2, 3, 4, 5, 6] (by kernel_rfl) ?_
  refine wpAnyN_take (i := 0) (v := ?rv1) rfl (by kernel_rfl) (by kernel_rfl) (by kernel_rfl) (by kernel_rfl) (by kernel_rfl) (fun _ _ _ h => h) (Or.inl ⟨by rfl, ?rh1⟩) hHeld ?_
  case rh1 => (intro w hSw; (try dsimp only at hSw); go_simp; try with_reducible rfl)
  refine wpAnyN_take (i := 1) (v := ?rv2) rfl (by kernel_rfl) (by kernel_rfl) (by kernel_rfl) (by kernel_rfl) (by kernel_rfl) (fun _ _ _ h => h) (Or.inl ⟨by rfl, ?rh2⟩) hHeld ?_
  case rh2 => (intro w hSw; (try dsimp only at hSw); go_simp; try with_reducible rfl)
  refine wpAnyN_take (i := 2) (v := ?rv3) rfl (by kernel_rfl) (by kernel_rfl) (by kernel_rfl) (by kernel_rfl) (by kernel_rfl) (fun _ _ _ h => h) (Or.inl ⟨by rfl, ?rh3⟩) hHeld ?_
  case rh3 => (intro w hSw; (try dsimp only at hSw); go_simp; try with_reducible rfl)
  refine wpAnyN_take (i := 3) (v := ?rv4) rfl (by kernel_rfl) (by kernel_rfl) (by kernel_rfl) (by kernel_rfl) (by kernel_rfl) (fun _ _ _ h => h) (Or.inl ⟨by rfl, ?rh4⟩) hHeld ?_
  case rh4 => (intro w hSw; (try dsimp only at hSw); go_simp; try with_reducible rfl)
  refine wpAnyN_take (i := 4) (v := ?rv5) rfl (by kernel_rfl) (by kernel_rfl) (by kernel_rfl) (by kernel_rfl) (by kernel_rfl) (fun _ _ _ h => h) (Or.inl ⟨by rfl, ?rh5⟩) hHeld ?_
  case rh5 => (intro w hSw; (try dsimp only at hSw); go_simp; try with_reducible rfl)
  refine wpAnyN_take (i := 5) (v := ?rv6) rfl (by kernel_rfl) (by kernel_rfl) (by kernel_rfl) (by kernel_rfl) (by kernel_rfl) (fun _ _ _ h => h) (Or.inl ⟨by rfl, ?rh6⟩) hHeld ?_
  case rh6 => (intro w hSw; (try dsimp only at hSw); go_simp; try with_reducible rfl)
  refine wpAnyN_take (i := 6) (v := ?rv7) rfl (by kernel_rfl) (by kernel_rfl) (by kernel_rfl) (by kernel_rfl) (by kernel_rfl) (fun _ _ _ h => h) (Or.inl ⟨by rfl, ?rh7⟩) hHeld ?_
  case rh7 => (intro w hSw; (try dsimp only at hSw); go_simp; try with_reducible rfl)
  refine wpAnyN_ready (rs := [7]) (by kernel_rfl) (by simp) ?_
  refine AllN.cons rfl (fun K rK8 => ?_) ?_
  · go_simp
    refine HR.mono ?_
    rintro e wA ⟨rfl, hbA⟩
    dsimp only
    refine rK8.go _ _ (hbA.cell c0) (fun rS8 => ?_)
    clear rK8 K
    refine wpAnyN_ready (rs := [8]) (by kernel_rfl) (by simp) ?_
    refine AllN.cons rfl (fun K rK9 => ?_) ?_
    · go_simp
      refine (hC wA).mono ?_
      rintro e wB ⟨rfl, hbB⟩
      dsimp only
      have hbw : Bl w wB := ((Bl.refl w).drew.trans hbA).trans hbB
      obtain ⟨fc, fz⟩ := hfz wB hbw
      refine rK9.go _ _ (hbB.cell (hbA.cell c0)) (fun rS9 => ?_)
      clear rK9 K
      refine wpAnyN_ready (rs := [9]) (by kernel_rfl) (by simp) ?_
      refine AllN.cons rfl (fun K rK10 => ?_) ?_
      · go_simp
        refine rK10.go _ _ (hbB.cell (hbA.cell c0)) (fun rS10 => ?_)
        clear rK10 K
        refine wpAnyN_ready (rs := [10]) (by kernel_rfl) (by simp) ?_
        refine AllN.cons rfl (fun K rK11 => ?_) ?_
        · go_simp
          refine rK11.go _ _ (hbB.cell (hbA.cell c0)) (fun rS11 => ?_)
          clear rK11 K
          refine wpAnyN_pass (i := 11) (v := ?rv12) rfl (by kernel_rfl) (by kernel_rfl) (by kernel_rfl) (by kernel_rfl) (fun _ _ _ h => h) (Or.inl ⟨by rfl, ?rh12⟩) ?_
          case rh12 => (intro w; go_simp; try with_reducible rfl)
          refine wpAnyN_pass (i := 12) (v := ?rv13) rfl (by kernel_rfl) (by kernel_rfl) (by kernel_rfl) (by kernel_rfl) (fun _ _ _ h => h) (Or.inl ⟨by rfl, ?rh13⟩) ?_
          case rh13 => (intro w; go_simp; try with_reducible rfl)
          refine wpAnyN_ready (rs := [13]) (by kernel_rfl) (by simp) ?_
          refine AllN.cons rfl (fun K rK14 => ?_) ?_
          · go_simp
            refine rK14.out _ _ (not_early (by kernel_rfl)) ?_
            clear rK14 K
            refine wpAnyN_done (by kernel_rfl) ?_ _
            go_wp2
            go_end0
            rw [show IntKind.i64.wrap ((S.size : Int) - (U.size : Int)) = (S.size : Int) - (U.size : Int) from IntWalk.i64_in _ (by omega)]
            exact ⟨rfl, hfin wB hbw⟩
          exact AllN.nil
        exact AllN.nil
      exact AllN.nil
    exact AllN.nil
  exact AllN.nil
end Go.Proofs.YtjocbifjmchbcaaGreatDoor
/- The parser's plain, backslash. -/
namespace Go.Proofs.YtjocbifjmchbcaaGreatDoor
open Go.RowKit

theorem add_long {l : List UInt8} (n : Nat) : (l.drop n).length ≤ l.length := by rw [List.length_drop]; omega
theorem sliceTo (l : List UInt8) (n : Nat) (h : n ≤ l.length) : (mkB l).extract 0 n = mkB (l.take n) := by rw [extract_mk, List.drop_zero]
/-- What IndexAny hands back, for any text of some length or of ASCII. -/
def AnyOk (l : List UInt8) : Prop := 8 < l.length ∨ ∀ b ∈ l, b.toNat < 128
set_option maxRecDepth 100000 in
theorem anyS (l : List UInt8) (hl : l.length ≤ 1000000) (hok : AnyOk l) (W : World) : Calls Tryz.prog 81 #[.string (mkB l), .string ⟨#[92, 38, 96, 60, 42, 95, 126, 33, 91, 93, 10]⟩] W fun e w' => e = .returned (.int .i64 (Lib.indexAny l specialL)) ∧ Bl W w' := by
  have hz : ∀ w, (zeroValue 166).run Tryz.prog w = .ok (.agg (Array.replicate 256 (.bool false))) w := fun w => by rfl
  have hsp : ∀ (j : Nat) (b : UInt8), (⟨#[92, 38, 96, 60, 42, 95, 126, 33, 91, 93, 10]⟩ : ByteArray).data.toList[j]? = some b → b.toNat < 128 := by
    intro j b hj
    have : b ∈ specialL := List.mem_of_getElem? hj
    have h2 : specialL.all (fun b => decide (b.toNat < 128)) = true := by decide
    exact of_decide_eq_true (List.all_eq_true.1 h2 b this)
  rcases hok with h | h
  · refine (Tryz.strings_IndexAny_long hz (mkB l) ⟨#[92, 38, 96, 60, 42, 95, 126, 33, 91, 93, 10]⟩ W (by decide) (by rw [mkB_size]; exact h) (by rw [mkB_size]; omega) (by decide) hsp).mono ?_
    rintro e w' ⟨rfl, rfl⟩
    exact ⟨rfl, ((Bl.refl W).alloc _).alloc _⟩
  · refine (Tryz.strings_IndexAny hz (mkB l) ⟨#[92, 38, 96, 60, 42, 95, 126, 33, 91, 93, 10]⟩ W (by rw [mkB_size]; omega) (by decide) (fun j b hj => h b (List.mem_of_getElem? hj)) hsp).mono ?_
    rintro e w' ⟨rfl, hb⟩
    exact ⟨rfl, ⟨hb⟩⟩
theorem indexAny_lt (chars : List UInt8) : ∀ l : List UInt8, Lib.indexAny l chars < l.length
  | [] => by show (-1 : Int) < 0; omega
  | b :: l => by
    have ih := indexAny_lt chars l
    rw [Lib.indexAny, List.length_cons]
    split
    · omega
    · split <;> omega
theorem ext_self (R : ByteArray) : R.extract 0 R.size = R := by
  apply str_eq
  rw [Lib.extract_data, List.drop_zero, Nat.sub_zero]
  exact List.take_of_length_le (by rw [size_len]; exact Nat.le_refl _)
theorem plainN_le (l : List UInt8) : plainN l ≤ l.length := by
  unfold plainN
  have h := indexAny_lt specialL (l.drop 1)
  split
  · exact Nat.le_refl _
  · rename_i h0
    rw [List.length_drop] at h
    omega
set_option maxRecDepth 100000 in
set_option maxHeartbeats 4000000 in
theorem plain_any (w0 w : World) (pb : Nat) (s : List UInt8) (dv nv : Value) (m : Int) (a : Pa) (hZ : Pz w0 w pb s dv nv m a) (ha : a.at_ < s.length) (hs : s.length ≤ 1000000) (hl : a.l.length ≤ 1000000) (hok : AnyOk (s.drop (a.at_ + 1))) :
    Calls Tryz.prog 39 #[.pointer (some ⟨pb, 0, none⟩)] w fun e w' => e = .returned (.tuple #[]) ∧ Pz w0 w' pb s dv nv m (plainP s a) := by
  have hln : (s.drop a.at_).length ≤ 1000000 := by rw [List.length_drop]; omega
  have hpos : 1 ≤ (s.drop a.at_).length := by rw [List.length_drop]; omega
  have hA := anyS ((s.drop a.at_).drop 1) (by rw [List.length_drop]; omega) (by rw [List.drop_drop]; exact hok)
  have hge := Lib.indexAny_ge specialL ((s.drop a.at_).drop 1)
  have hN := plainN_le (s.drop a.at_)
  have hNd : plainN (s.drop a.at_) = if (Lib.indexAny ((s.drop a.at_).drop 1) specialL + 1).toNat = 0 then (s.drop a.at_).length else (Lib.indexAny ((s.drop a.at_).drop 1) specialL + 1).toNat := rfl
  obtain ⟨n, hn⟩ : ∃ n, plainN (s.drop a.at_) = n := ⟨_, rfl⟩
  have hfin : ∀ W, Pz w0 W pb s dv nv m a → Calls Tryz.prog 63 #[.pointer (some ⟨pb, 0, none⟩), .agg #[.int .i64 ((14 : Nat) : Int), .string (mkB ((s.drop a.at_).take n)), .string (mkB []), .int .i64 0, .int .i64 0, .bool false, .slice none 0 0], .int .i64 (n : Int)] W fun e w' => e = .returned (.tuple #[]) ∧ Pz w0 w' pb s dv nv m (plainP s a) := fun W hW => by
    have := padd_any w0 W pb s dv nv m a hW 14 ((s.drop a.at_).take n) [] _ .nil (Rep.nil _ _) n hl (by omega) (by omega)
    unfold plainP
    rw [hn]
    exact this
  have hRS := fun W (hW : Pz w0 W pb s dv nv m a) => rest_any w0 W pb s dv nv m a hW (Nat.le_of_lt ha)
  obtain ⟨r, hr⟩ : ∃ r, s.drop a.at_ = r := ⟨_, rfl⟩
  rw [hr] at hA hge hN hNd hn hln hpos hRS
  rw [hr] at hfin
  rw [hn] at hN hNd
  have hrs := mkB_size r
  have hX : (mkB r).extract 1 (mkB r).size = mkB (r.drop 1) := by rw [extract_mk, mkB_size, List.take_length]
  have hY : (mkB r).extract 0 n = mkB (r.take n) := sliceTo r n hN
  obtain ⟨q, hq⟩ : ∃ q, Lib.indexAny (r.drop 1) specialL = q := ⟨_, rfl⟩
  rw [hq] at hA hge hNd
  obtain ⟨R, hR⟩ : ∃ R, mkB r = R := ⟨_, rfl⟩
  rw [hR] at hrs hX hY hRS
  rw [← hX] at hA
  rw [← hY] at hfin
  have hTX := fun W => text_any (r.take n) W
  rw [← hY] at hTX
  rw [← hrs] at hN hNd hln hpos
  clear hr hn hq hR hX hY hrs
  have j1 : (1 : Int) ≤ (R.size : Int) := by omega
  have hqb : q + 1 ≤ 1000001 := by
    split at hNd <;> omega
  by_cases h0 : q + 1 = 0
  · have d0 : (q + 1 == 0) = true := by rw [beq_iff_eq]; exact h0
    rw [if_pos (by omega)] at hNd
    rw [hNd] at hfin hTX
    rw [ext_self] at hfin hTX
    clear hNd hN
    have i1 : (R.size : Int) ≤ (R.size : Int) := Int.le_refl _
    have d1 : q = -1 := by omega
    subst d1
    clear h0 d0
    go_enter Tryz.func39, Tryz.ntmps39
    go_wp2_with fail
    refine (hRS w hZ).mono ?_
    rintro e w1 ⟨rfl, hb1⟩
    dsimp only
    have hZ1 := hZ.more hb1
    go_wp2_with fail
    refine (hA _).mono ?_
    rintro e w2 ⟨rfl, hb2⟩
    dsimp only
    have hZ2 := hZ1.more hb2
    go_wp2_with fail
    refine (hRS w2 hZ2).mono ?_
    rintro e w3 ⟨rfl, hb3⟩
    dsimp only
    have hZ3 := hZ2.more hb3
    go_wp2_with fail
    refine (hRS w3 hZ3).mono ?_
    rintro e w4 ⟨rfl, hb4⟩
    dsimp only
    have hZ4 := hZ3.more hb4
    go_wp2_with fail
    refine (hTX _).mono ?_
    rintro e w5 ⟨rfl, hb5⟩
    dsimp only
    have hZ5 := hZ4.more hb5
    go_wp2_with fail
    refine (hfin w5 hZ5).mono ?_
    rintro e w6 ⟨rfl, hZ6⟩
    dsimp only
    go_wp2
    go_end0
    exact ⟨rfl, hZ6⟩
  · have d0 : (q + 1 == 0) = false := by rw [beq_eq_false_iff_ne]; exact h0
    rw [if_neg (by omega)] at hNd
    have hqq := Lib.hid (show q = (n : Int) - 1 by omega)
    have hnp : 1 ≤ n := by omega
    clear hNd d0 h0 hge hqb
    have hA : ∀ W, Calls Tryz.prog 81 #[.string (R.extract 1 R.size), .string ⟨#[92, 38, 96, 60, 42, 95, 126, 33, 91, 93, 10]⟩] W fun e w' => e = .returned (.int .i64 ((n : Int) - 1)) ∧ Bl W w' := by
      rw [← hqq.out]; exact hA
    clear hqq
    have d0 : ((n : Int) == 0) = false := by rw [beq_eq_false_iff_ne]; omega
    have i1 : (n : Int) ≤ (R.size : Int) := by omega
    go_enter Tryz.func39, Tryz.ntmps39
    go_wp2_with fail
    refine (hRS w hZ).mono ?_
    rintro e w1 ⟨rfl, hb1⟩
    dsimp only
    have hZ1 := hZ.more hb1
    go_wp2_with fail
    refine (hA _).mono ?_
    rintro e w2 ⟨rfl, hb2⟩
    dsimp only
    have hZ2 := hZ1.more hb2
    go_wp2_with fail
    refine (hRS w2 hZ2).mono ?_
    rintro e w4 ⟨rfl, hb4⟩
    dsimp only
    have hZ4 := hZ2.more hb4
    go_wp2_with fail
    refine (hTX _).mono ?_
    rintro e w5 ⟨rfl, hb5⟩
    dsimp only
    have hZ5 := hZ4.more hb5
    go_wp2_with fail
    refine (hfin w5 hZ5).mono ?_
    rintro e w6 ⟨rfl, hZ6⟩
    dsimp only
    go_wp2
    go_end0
    exact ⟨rfl, hZ6⟩
end Go.Proofs.YtjocbifjmchbcaaGreatDoor
/- The characters at a text's ends; flanks. -/
namespace Go.Proofs.YtjocbifjmchbcaaGreatDoor
open Go.RowKit

theorem mkB_empty (s : List UInt8) : (mkB s).toList.isEmpty = s.isEmpty := by rw [toList_eq, mkB_data]
set_option maxHeartbeats 1000000 in
theorem last_any (s : List UInt8) (w : World) (hT : Lib.Utf8Tabs 0 1 w) (hs : s.length ≤ 1000000) :
    Calls Tryz.prog 73 #[.string (mkB s)] w fun e w' => e = .returned (.int .i32 (lastI s)) ∧ Bl w w' := by
  cases s with
  | nil =>
    have hne : (mkB []).toList.isEmpty = true := by rw [mkB_empty]; rfl
    go_enter Tryz.func73, Tryz.ntmps73
    go_wp2
    go_ret
    exact ⟨rfl, Bl.refl w⟩
  | cons a t =>
    have hL := Tryz.utf8_DecodeLastRuneInString (mkB (a :: t)) w (by rw [mkB_size]; omega) hT
    rw [mkB_data] at hL
    have hd : lastI (a :: t) = if ((Lib.decodeLastL (a :: t)).1 : Int) == 0 then 65533 else ((Lib.decodeLastL (a :: t)).1 : Int) := by
      unfold lastI
      rw [if_neg (by simp)]
      have : (((Lib.decodeLastL (a :: t)).1 : Int) == 0) = ((Lib.decodeLastL (a :: t)).1 == 0) := by rw [Bool.eq_iff_iff]; simp only [beq_iff_eq]; omega
      rw [this]
    rw [hd]
    clear hd
    obtain ⟨x, hx⟩ : ∃ x, ((Lib.decodeLastL (a :: t)).1 : Int) = x := ⟨_, rfl⟩
    obtain ⟨y, hy⟩ : ∃ y, ((Lib.decodeLastL (a :: t)).2 : Int) = y := ⟨_, rfl⟩
    rw [hx, hy] at hL
    rw [hx]
    obtain ⟨S, hS⟩ : ∃ S, mkB (a :: t) = S := ⟨_, rfl⟩
    have hne : S.toList.isEmpty = false := by rw [← hS, mkB_empty]; rfl
    rw [hS] at hL ⊢
    have hSs : S.size ≤ 1000000 := by rw [← hS, mkB_size]; exact hs
    clear hx hy hS
    cases h0 : (x == 0) with
    | true =>
      go_enter Tryz.func73, Tryz.ntmps73
      go_wp2_with fail
      refine hL.mono ?_
      rintro e w1 ⟨rfl, hb1⟩
      go_wp2
      go_ret
      exact ⟨rfl, ⟨hb1⟩⟩
    | false =>
      go_enter Tryz.func73, Tryz.ntmps73
      go_wp2_with fail
      refine hL.mono ?_
      rintro e w1 ⟨rfl, hb1⟩
      go_wp2
      go_ret
      exact ⟨rfl, ⟨hb1⟩⟩
set_option maxRecDepth 100000 in
set_option maxHeartbeats 1000000 in
theorem first_any (s : List UInt8) (w : World) (hT : Lib.Utf8Tabs 0 1 w) (hs : s.length ≤ 1000000) :
    Calls Tryz.prog 74 #[.string (mkB s)] w fun e w' => e = .returned (.int .i32 (firstI s)) ∧ Bl w w' := by
  cases s with
  | nil =>
    have hne : (mkB []).toList.isEmpty = true := by rw [mkB_empty]; rfl
    go_enter Tryz.func74, Tryz.ntmps74
    go_wp2
    go_ret
    exact ⟨rfl, Bl.refl w⟩
  | cons a t =>
    have hD := fun W (hW : Bl w W) => Tryz.utf8_DecodeRuneInString (mkB (cleanL ((a :: t).take 4))) W (tabs_more hT hW)
    have hF : firstI (a :: t) = ((Lib.decodeGo (mkB (cleanL ((a :: t).take 4)))).1 : Int) := rfl
    rw [hF]
    clear hF
    obtain ⟨S, hS⟩ : ∃ S, mkB (a :: t) = S := ⟨_, rfl⟩
    have hne : S.toList.isEmpty = false := by rw [← hS, mkB_empty]; rfl
    have hSs : S.size ≤ 1000000 := by rw [← hS, mkB_size]; exact hs
    obtain ⟨k, hk⟩ : ∃ k, min S.size 4 = k := ⟨_, rfl⟩
    have hkS : k ≤ S.size := by omega
    have hX : S.extract 0 k = mkB ((a :: t).take 4) := by
      rw [← hS, sliceTo _ _ (by rw [← hk, ← hS, mkB_size]; omega), ← hk, ← hS, mkB_size]
      congr 1
      rcases Nat.le_total (a :: t).length 4 with h | h
      · rw [Nat.min_eq_left h, List.take_of_length_le (Nat.le_refl _), List.take_of_length_le h]
      · rw [Nat.min_eq_right h]
    have hks : k = (mkB ((a :: t).take 4)).size := by
      rw [mkB_size, List.length_take, ← hk, ← hS, mkB_size]; omega
    obtain ⟨U, hU⟩ : ∃ U, mkB ((a :: t).take 4) = U := ⟨_, rfl⟩
    rw [hU] at hX hks
    have hcv := Lib.run_convert_string_bytes (P := Tryz.prog) w 9 37 5 U (u := .string) Tryz.underlying9 Tryz.underlying37 Tryz.underlying5
    have hbB : Bl w (Lib.bytesWorld w 5 U) := ⟨⟨rfl, rfl, rfl, by rw [Lib.bytesWorld_size]; omega, fun i hi => Lib.bytesWorld_at_old w 5 U i hi⟩⟩
    have hcap := grownCap_ge w U.size 0 5
    have hBy : BytesAt (Lib.bytesWorld w 5 U) w.heap.size 0 ((a :: t).take 4) := ⟨fun j b hj => by
      have hlt := (List.getElem?_eq_some_iff.1 hj).1
      have := Lib.bytesWorld_cell w 5 U j (by rw [← hU, mkB_size]; exact hlt)
      rw [Nat.zero_add, this, ← hU, mkB_data]
      rw [List.getD_eq_getElem?_getD, hj]; rfl⟩
    have hC := clean_any w.heap.size 0 U.size (grownCap w U.size 0 5) ((a :: t).take 4) _ (tabs_more hT hbB) hBy (by rw [← hU, mkB_size]) hcap (by rw [← hU, mkB_size, List.length_take]; omega)
    obtain ⟨C, hCc⟩ : ∃ C, mkB (cleanL ((a :: t).take 4)) = C := ⟨_, rfl⟩
    rw [hCc] at hC hD ⊢
    obtain ⟨W1, hW1⟩ : ∃ W1, Lib.bytesWorld w 5 U = W1 := ⟨_, rfl⟩
    obtain ⟨cap, hcp⟩ : ∃ cap, grownCap w U.size 0 5 = cap := ⟨_, rfl⟩
    obtain ⟨L, hL⟩ : ∃ L, U.size = L := ⟨_, rfl⟩
    rw [hW1, hcp, hL] at hcv
    rw [hW1, hcp, hL] at hC
    rw [hW1] at hbB
    rw [hS]
    have hm1 : (min (S.size : Int) 4).toNat = k := by omega
    have hm2 : S.extract 0 (min (S.size : Int) 4).toNat = U := by rw [hm1]; exact hX
    have m1 : (0 : Int) ≤ min (S.size : Int) 4 := by omega
    have m2 : min (S.size : Int) 4 ≤ (S.size : Int) := by omega
    clear hS hU hX hks hk hkS hBy hCc hW1 hcp hL hcap hm1
    go_enter Tryz.func74, Tryz.ntmps74
    go_wp2_with fail
    refine hC.mono ?_
    rintro e w2 ⟨rfl, hb2⟩
    go_wp2_with fail
    refine (hD _ (hbB.trans hb2)).mono ?_
    rintro e w3 ⟨rfl, hb3⟩
    go_wp2
    go_ret
    exact ⟨rfl, (hbB.trans hb2).trans ⟨hb3⟩⟩
set_option maxHeartbeats 1000000 in
theorem flank_any (a b : Int) (c : UInt8) (w : World) :
    Calls Tryz.prog 72 #[.int .i32 a, .int .i32 b, .int .u8 (c.toNat : Int)] w fun e w' => e = .returned (.tuple #[.bool (flankR a b (c.toNat : Int)).1, .bool (flankR a b (c.toNat : Int)).2]) ∧ Bl w w' := by
  have H1 := fun W => leans_any b a W
  have H2 := fun W => leans_any a b W
  have H3 := fun W => punct_any a W
  have H4 := fun W => punct_any b W
  obtain ⟨f, hf⟩ : ∃ f, flankR a b (c.toNat : Int) = f := ⟨_, rfl⟩
  have hf0 := hf
  unfold flankR at hf
  obtain ⟨p1, h1⟩ : ∃ p, leansR b a = p := ⟨_, rfl⟩
  obtain ⟨p2, h2⟩ : ∃ p, leansR a b = p := ⟨_, rfl⟩
  obtain ⟨p3, h3⟩ : ∃ p, punctI a = p := ⟨_, rfl⟩
  obtain ⟨p4, h4⟩ : ∃ p, punctI b = p := ⟨_, rfl⟩
  rw [h1] at H1 hf
  rw [h2] at H2 hf
  rw [h3] at H3 hf
  rw [h4] at H4 hf
  rw [hf0]
  clear h1 h2 h3 h4 hf0
  cases h95 : ((c.toNat : Int) != 95) with
  | true =>
    rw [h95, if_pos rfl] at hf
    subst hf
    go_enter Tryz.func72, Tryz.ntmps72
    go_wp2_with fail
    refine (H1 _).mono ?_
    rintro e w1 ⟨rfl, hb1⟩
    go_wp2_with fail
    refine (H2 _).mono ?_
    rintro e w2 ⟨rfl, hb2⟩
    go_wp2
    go_ret2
    exact ⟨rfl, hb1.trans hb2⟩
  | false =>
    rw [h95, if_neg (by decide)] at hf
    subst hf
    cases p1 <;> cases p2
    all_goals
      go_enter Tryz.func72, Tryz.ntmps72
      go_wp2_with fail
      refine (H1 _).mono ?_
      rintro e w1 ⟨rfl, hb1⟩
      go_wp2_with fail
      refine (H2 _).mono ?_
      rintro e w2 ⟨rfl, hb2⟩
      have hb := hb1.trans hb2
      clear hb1 hb2 H1 H2
      first
        | (go_wp2_with fail
           refine (H3 _).mono ?_
           rintro e w3 ⟨rfl, hb3⟩
           go_wp2_with fail
           refine (H4 _).mono ?_
           rintro e w4 ⟨rfl, hb4⟩
           go_wp2
           go_ret2
           exact ⟨rfl, (hb.trans hb3).trans hb4⟩)
        | (go_wp2
           go_ret2
           exact ⟨rfl, hb⟩)
end Go.Proofs.YtjocbifjmchbcaaGreatDoor
