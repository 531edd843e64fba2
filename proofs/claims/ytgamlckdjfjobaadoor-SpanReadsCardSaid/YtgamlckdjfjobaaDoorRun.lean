/- The contract of span.Run. -/
import Derived.Test.YtgamlckdjfjobaaDoorPart
import Derived.Test.YtgamlckdjfjobaaDoorLists
namespace Go.Proofs.YtgamlckdjfjobaaDoor
open Go.RowKit

theorem at_some (s : ByteArray) (k : Nat) (h : k < s.size) : s.data.toList[k]? = some s[k] := by
  rw [List.getElem?_eq_getElem (by simpa using h)]; rfl
theorem at_none (s : ByteArray) (k : Nat) (h : ¬ k < s.size) : s.data.toList[k]? = none := by
  rw [List.getElem?_eq_none_iff]; simpa using Nat.le_of_not_lt h
theorem beq_of_byte (b c : UInt8) : ((b.toNat : Int) == (c.toNat : Int)) = (b == c) := eq_of_byte _ rfl

set_option maxHeartbeats 400000 in
theorem run_any (s : ByteArray) (w : World) (hs : s.size ≤ 140737488351232) :
    Calls Tryd.prog 16 #[.string s] w fun e w' => e = .returned (.int .i64 (runL s.data.toList)) ∧ Bl w w' := by
  have hl : s.data.toList.length = s.size := by simp
  have L := Lib.hid hl
  clear hl
  go_enter Tryd.func16, Tryd.ntmps16
  go_wp2
  go_loopw [3] (fun i wr => ∃ k : Nat, k ≤ s.size ∧ i = .int .i64 k ∧ Bl w wr ∧ Hid ((s.data.toList.take k).all (· == s.data.toList.headD 0) = true)) (fun i _ => s.size - (intOf i).toNat)
  case atStart => exact ⟨0, Nat.zero_le _, rfl, Bl.refl _, Lib.hid (by simp)⟩
  case round =>
    obtain ⟨k, hk, rfl, hb, hall⟩ := hrel
    by_cases hlt : k < s.size
    · have hp : 0 < s.size := by omega
      have G := Lib.hid (headD_at s hp)
      have H := Lib.hid (take_succ_all s (· == s.data.toList.headD 0) k hlt)
      have E := Lib.hid (beq_of_byte s[k] s[0])
      cases he : ((s[k].toNat : Int) == (s[0].toNat : Int)) with
      | true =>
        go_wp2
        repeat (go_quiet (fail); try go_wp2)
        go_roundw
        case rel => exact ⟨k + 1, by omega, by go_num, by repeat (first | exact hb | apply Bl.drewN | apply Bl.drew), Lib.hid (by rw [H.out, hall.out, G.out]; rw [he] at E; exact E.out.symm)⟩
        case measure => simp [intOf]; omega
      | false =>
        go_wp2
        repeat (go_quiet (fail); try go_wp2)
        go_ret
        refine ⟨ret_int ?_, by repeat (first | exact hb | apply Bl.drewN | apply Bl.drew)⟩
        have h := takeWhile_stop (· == s.data.toList.headD 0) s.data.toList k (by rw [L.out]; exact hk) hall.out
        rw [runL, h]
        intro a ha
        have : a = s[k] := Option.some.inj (ha.symm.trans (at_some s k hlt))
        rw [this, G.out]; rw [he] at E; exact E.out.symm
    · go_wp2
      repeat (go_quiet (fail); try go_wp2)
      go_ret
      refine ⟨ret_int ?_, by repeat (first | exact hb | apply Bl.drewN | apply Bl.drew)⟩
      have h := takeWhile_stop (· == s.data.toList.headD 0) s.data.toList k (by rw [L.out]; exact hk) hall.out
      rw [runL, h]
      intro a ha
      rw [at_none s k hlt] at ha; cases ha

end Go.Proofs.YtgamlckdjfjobaaDoor
