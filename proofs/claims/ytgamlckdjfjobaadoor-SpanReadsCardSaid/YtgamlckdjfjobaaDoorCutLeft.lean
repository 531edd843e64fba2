/- The contract of cutLeft: a text without the characters of an ASCII set at its beginning. -/
import Derived.Test.YtgamlckdjfjobaaDoorAuto
import Derived.Lib.OthersKept
namespace Go.Proofs.YtgamlckdjfjobaaDoor
open Go.RowKit

def inB (p : ByteArray) (j : Nat) (r : Nat) : Bool := (p.data.toList.take j).any fun b => ((r : Int) == (b.toNat : Int))
theorem inB_zero (p : ByteArray) (r : Nat) : inB p 0 r = false := by simp [inB]
theorem inB_succ (p : ByteArray) (j r : Nat) (h : j < p.size) : inB p (j + 1) r = (inB p j r || ((r : Int) == (p[j].toNat : Int))) := by
  unfold inB
  rw [List.take_succ_eq_append_getElem (by simpa using h), List.any_append]; simp; rfl
theorem inB_full (p : ByteArray) (r : Nat) (j : Nat) (h : p.size ≤ j) : inB p j r = p.data.toList.any fun b => ((r : Int) == (b.toNat : Int)) := by
  unfold inB; rw [List.take_of_length_le (by simpa using h)]
theorem width_pos (s : ByteArray) (pos : Nat) (h : pos < s.size) : 1 ≤ (Utf8.decode s pos).2 := by
  by_cases ha : (s[pos]'h).toNat < 128
  · rw [decode_ascii s pos h ha]; exact Nat.le_refl _
  · exact (decode_high s pos h (by omega)).2
theorem in_set (s p : ByteArray) (ha : ∀ b ∈ p.data.toList, b.toNat < 128) (k : Nat) (h : k < s.size) :
    (p.data.toList.any fun b => (((Utf8.decode s k).1 : Int) == (b.toNat : Int))) = p.data.toList.contains s[k] := by
  by_cases h8 : (s[k]'h).toNat < 128
  · rw [decode_ascii s k h h8, List.contains_eq_any_beq]
    congr 1
    funext b
    exact beq_of_byte _ _
  · have hd := (decode_high s k h (by omega)).1
    have e1 : (p.data.toList.any fun b => (((Utf8.decode s k).1 : Int) == (b.toNat : Int))) = false := by
      rw [List.any_eq_false]; intro b hb
      have := ha b hb
      simp; omega
    have e2 : p.data.toList.contains s[k] = false := by
      rw [List.contains_eq_any_beq, List.any_eq_false]; intro b hb
      have := ha b hb
      intro e
      have : s[k] = b := by simpa using e
      rw [this] at h8; omega
    rw [e1, e2]
theorem in_one (s p : ByteArray) (ha : ∀ b ∈ p.data.toList, b.toNat < 128) (k : Nat) (h : k < s.size) (hi : p.data.toList.contains s[k] = true) : (Utf8.decode s k).2 = 1 := by
  have : (s[k]'h).toNat < 128 := by
    refine ha _ ?_
    simpa using hi
  rw [decode_ascii s k h this]

def cutL (p l : List UInt8) : List UInt8 := l.dropWhile (p.contains ·)
theorem dropWhile_stop {α : Type} (p : α → Bool) : ∀ (l : List α) (k : Nat), k ≤ l.length → (l.take k).all p = true → (∀ a, l[k]? = some a → p a = false) → l.dropWhile p = l.drop k := by
  intro l k hk h1 h2
  rw [← takeWhile_drop, takeWhile_stop p l k hk h1 h2]

set_option maxHeartbeats 1000000 in
theorem cutLeft_any (s p : ByteArray) (w : World) (_hs : s.size ≤ 1000000) (_hp : p.size ≤ 1000) (ha : ∀ b ∈ p.data.toList, b.toNat < 128) :
    Calls Tryd.prog 72 #[.string s, .string p] w fun e w' => e = .returned (.string (mkB (cutL p.data.toList s.data.toList))) ∧ Bl w w' := by
  have HA := Lib.hid ha
  clear ha
  go_enter Tryd.func72, Tryd.ntmps72
  go_wp2
  go_loopw [] (fun wr => ∃ k : Nat, k ≤ s.size ∧ wr.heap[w.heap.size]? = some (.stringIter s k) ∧ Bl w wr ∧ Hid ((s.data.toList.take k).all (p.data.toList.contains ·) = true)) (fun wr => s.size - wr.iterPos w.heap.size)
  case atStart =>
    exact ⟨0, Nat.zero_le _, by simpa using World.iter_heap w s 0, ⟨(Below.refl _ w).alloc (Nat.le_refl _) _⟩, Lib.hid (by simp)⟩
  case round =>
    obtain ⟨k, hk, hit, hb, hall⟩ := hrel
    have hsz : w.heap.size < wr.heap.size := (Array.getElem?_eq_some_iff.1 hit).1
    by_cases hlt : k < s.size
    · have hnx : ∀ ty, (Instr.next (.pointer (some ⟨w.heap.size, 0, none⟩)) true ty).run Tryd.prog wr = _ := fun ty => Lib.run_next_any_at wr w.heap.size s k ty hit hlt
      obtain ⟨n, hn⟩ : ∃ n, (Utf8.decode s k).2 = n := ⟨_, rfl⟩
      obtain ⟨r, hr⟩ : ∃ r, (Utf8.decode s k).1 = r := ⟨_, rfl⟩
      rw [hn, hr] at hnx
      have hin := in_set s p HA.out k hlt
      have h1 := in_one s p HA.out k hlt
      rw [hr] at hin
      rw [hn] at h1
      have hb2 : Bl w (wr.iterAt w.heap.size s (k + n)) := ⟨Lib.below_iterAt hb.out (Nat.le_refl _) s (k + n)⟩
      have hit2 := Lib.iterAt_heap wr w.heap.size s k (k + n) hit
      have hz2 : (wr.iterAt w.heap.size s (k + n)).heap.size = wr.heap.size := Lib.iterAt_size ..
      have HN := Lib.hid hin
      have H1 := Lib.hid h1
      have HK := Lib.hid (take_succ_all s (p.data.toList.contains ·) k hlt)
      clear hn hr hin h1
      obtain ⟨w2, hw2⟩ : ∃ w2, wr.iterAt w.heap.size s (k + n) = w2 := ⟨_, rfl⟩
      rw [hw2] at hnx hb2 hit2 hz2
      have Z2 := Lib.hid hz2
      have hlt2 : w.heap.size < w2.heap.size := by omega
      clear hz2 hw2
      obtain ⟨wo, rfl⟩ : ∃ wo : World, wo = wr := ⟨_, rfl⟩
      go_wp2
      go_loopw [7] (fun v wi => ∃ j : Nat, j ≤ p.size ∧ wi.heap[w2.heap.size]? = some (.stringIter p j) ∧ wi.heap[w.heap.size]? = some (.stringIter s (k + n)) ∧ Bl w wi ∧ v = .bool (inB p j r)) (fun _ wi => p.size - wi.iterPos w2.heap.size)
      case atStart =>
        refine ⟨0, Nat.zero_le _, by simpa using World.iter_heap w2 p 0, ?_, hb2.trans ⟨(Below.refl _ w2).alloc (Nat.le_refl _) _⟩, by rw [inB_zero]⟩
        have hx : Bl w2 (w2.iter p 0) := ⟨(Below.refl _ w2).alloc (Nat.le_refl _) _⟩
        rw [hx.block hlt2]; exact hit2
      case round =>
        obtain ⟨j, hj, hjt, hit3, hb3, rfl⟩ := hrel
        by_cases hjl : j < p.size
        · have hja : (p[j]'hjl).toNat < 128 := HA.out _ (by rw [← Array.mem_def]; exact Array.getElem_mem (by simpa using hjl))
          have hnx2 : ∀ ty, (Instr.next (.pointer (some ⟨w2.heap.size, 0, none⟩)) true ty).run Tryd.prog wr = _ := fun ty => Lib.run_next_ascii_at wr w2.heap.size p j ty hjt hjl hja
          have hb4 : Bl w (wr.iterAt w2.heap.size p (j + 1)) := ⟨Lib.below_iterAt hb3.out (by omega) p (j + 1)⟩
          have hit4 := Lib.iterAt_heap wr w2.heap.size p j (j + 1) hjt
          have hit5 : (wr.iterAt w2.heap.size p (j + 1)).heap[w.heap.size]? = some (.stringIter s (k + n)) := by
            rw [Lib.iterAt_other _ _ _ _ _ (by omega)]; exact hit3
          have HS := Lib.hid (inB_succ p j r hjl)
          obtain ⟨b, hbv⟩ : ∃ b, inB p j r = b := ⟨_, rfl⟩
          obtain ⟨c, hcv⟩ : ∃ c : Bool, ((r : Int) == (p[j].toNat : Int)) = c := ⟨_, rfl⟩
          rw [hbv, hcv] at HS
          rw [hbv]
          have B1 := Lib.hid hbv
          clear hbv hja
          obtain ⟨w4, hw4⟩ : ∃ w4, wr.iterAt w2.heap.size p (j + 1) = w4 := ⟨_, rfl⟩
          rw [hw4] at hnx2 hb4 hit4 hit5
          have W4 := Lib.hid hw4
          clear hw4
          cases b with
          | true =>
            go_wp2
            go_roundw
            case rel => exact ⟨j + 1, by omega, hit4, hit5, hb4, by rw [HS.out]; rfl⟩
            case measure => simp only [World.iterPos, hit4, hjt]; omega
          | false =>
            cases c with
            | true =>
              go_wp2
              go_roundw
              case rel => exact ⟨j + 1, by omega, hit4, hit5, hb4, by rw [HS.out]; rfl⟩
              case measure => simp only [World.iterPos, hit4, hjt]; omega
            | false =>
              go_wp2
              go_roundw
              case rel => exact ⟨j + 1, by omega, hit4, hit5, hb4, by rw [HS.out]; rfl⟩
              case measure => simp only [World.iterPos, hit4, hjt]; omega
        · have hnx2 : ∀ ty, (Instr.next (.pointer (some ⟨w2.heap.size, 0, none⟩)) true ty).run Tryd.prog wr = _ := fun ty => Lib.run_next_end_at wr w2.heap.size p j ty hjt hjl
          have hf := (inB_full p r j (by omega)).trans HN.out
          cases hc : p.data.toList.contains s[k] with
          | true =>
            rw [hc] at hf
            rw [hf]
            have F := Lib.hid hf
            have e1 := H1.out hc
            subst e1
            have C := Lib.hid hc
            clear hf hc
            go_wp2
            go_roundw
            case rel => exact ⟨k + 1, by omega, hit3, hb3, Lib.hid (by rw [HK.out, hall.out, C.out]; rfl)⟩
            case measure => simp only [World.iterPos, hit3, hit]; omega
          | false =>
            rw [hc] at hf
            rw [hf]
            have C := Lib.hid hc
            clear hf hc
            go_wp2
            go_ret
            refine ⟨ret_str ?_, hb3⟩
            refine str_eq ?_
            rw [Lib.extract_to_end, mkB_data, cutL, dropWhile_stop _ _ k (by rw [size_len]; exact hk) hall.out]
            intro a ha2
            have : a = s[k] := Option.some.inj (ha2.symm.trans (at_some s k hlt))
            rw [this]; exact C.out
    · have hnx : ∀ ty, (Instr.next (.pointer (some ⟨w.heap.size, 0, none⟩)) true ty).run Tryd.prog wr = _ := fun ty => Lib.run_next_end_at wr w.heap.size s k ty hit hlt
      go_wp2
      go_ret
      refine ⟨ret_str ?_, hb⟩
      have h := hall.out
      rw [List.take_of_length_le (by rw [size_len]; omega)] at h
      unfold cutL
      rw [(dropWhile_nil _ _).mpr (List.all_eq_true.mp h)]; rfl

end Go.Proofs.YtgamlckdjfjobaaDoor
