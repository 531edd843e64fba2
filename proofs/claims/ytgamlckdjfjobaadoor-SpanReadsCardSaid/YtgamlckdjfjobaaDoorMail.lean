/- The contracts of span.mailbox and span.Auto. -/
import Derived.Test.YtgamlckdjfjobaaDoorAddr
namespace Go.Proofs.YtgamlckdjfjobaaDoor
open Go.RowKit

/-- Block B holds these texts, one behind the other. -/
structure RowS (w : World) (B : Nat) (P : List ByteArray) : Prop where
  mk :: (out : ∀ k (h : k < P.length), w.cell? ⟨B, k, none⟩ = some (.string P[k]))
theorem RowS.bl {w w' : World} {B : Nat} {P : List ByteArray} (h : RowS w B P) (k : Bl w w') : RowS w' B P := ⟨fun i hi => k.cell (h.out i hi)⟩

theorem split_is (s p : ByteArray) (c : UInt8) (hp : p = ⟨#[c]⟩) (w : World) (hm : MaxAt w) (hs : s.size ≤ 1000000) :
    Calls Tryd.prog 41 #[.string s, .string p] w fun e w' => ∃ (B : Nat) (P : List ByteArray), P.map (·.data.toList) = splitC c s.data.toList ∧
      e = .returned (.slice (some ⟨B, 0, none⟩) P.length P.length) ∧ Bl w w' ∧ RowS w' B P ∧ P.length ≤ s.size + 1 ∧ ∀ x ∈ P, x.size ≤ s.size := by
  subst hp
  obtain ⟨m, hm⟩ := hm.out
  refine (Tryd.strings_Split s ⟨#[c]⟩ m w (by omega) hm (by show 1 ≤ (#[c] : Array UInt8).size; simp)).mono ?_
  rintro e w' ⟨rfl, rfl⟩
  have hmap : (Lib.splitB ⟨#[c]⟩ 0 (Lib.countB s ⟨#[c]⟩) s).map (·.data.toList) = splitC c s.data.toList := by
    rw [Lib.splitB_data]
    refine splitK_one c _ _ ?_
    show _ = Lib.count s.data.toList [c]
    rw [Lib.count_one]
  refine ⟨w.heap.size, Lib.splitB ⟨#[c]⟩ 0 (Lib.countB s ⟨#[c]⟩) s, hmap, ?_, (Bl.refl _).alloc _, ⟨fun k h => ?_⟩, ?_, ?_⟩
  · rw [Lib.splitB_all ⟨#[c]⟩ (by show 1 ≤ (#[c] : Array UInt8).size; simp) 0 _ s rfl]
  · simp
  · rw [Lib.splitB_all ⟨#[c]⟩ (by show 1 ≤ (#[c] : Array UInt8).size; simp) 0 _ s rfl]
    have := Lib.countB_le ⟨#[c]⟩ (by show 1 ≤ (#[c] : Array UInt8).size; simp) s.size s (Nat.le_refl _)
    omega
  · intro x hx
    rw [← size_len, ← size_len]
    exact splitC_le c _ _ (by rw [← hmap]; exact List.mem_map_of_mem hx)

/-- Is a text a mailbox? -/
def mailL (l : List UInt8) : Bool :=
  l.contains 64 && (!(l.takeWhile (· != 64)).isEmpty && allL (l.takeWhile (· != 64)) (wordB [46, 33, 35, 36, 37, 38, 39, 42, 43, 47, 61, 63, 94, 95, 96, 123, 124, 125, 126, 45])
    && (splitC 46 (l.dropWhile (· != 64)).tail).all partB)

theorem all_part (P : List ByteArray) (k : Nat) (h : k < P.length) : (P.take (k + 1)).all (fun s => partB s.data.toList) = ((P.take k).all (fun s => partB s.data.toList) && partB P[k].data.toList) := by
  rw [List.take_succ_eq_append_getElem h, List.all_append]; simp

theorem mail_no (P : List ByteArray) (k : Nat) (h : k < P.length) (hx : partB P[k].data.toList = false) : (P.map (·.data.toList)).all partB = false := by
  rw [List.all_eq_false]
  exact ⟨P[k].data.toList, List.mem_map_of_mem (List.getElem_mem h), by rw [hx]; decide⟩
set_option maxHeartbeats 400000 in
theorem mailbox_any (s : ByteArray) (w : World) (hm : MaxAt w) (hs : s.size ≤ 1000000) :
    Calls Tryd.prog 22 #[.string s] w fun e w' => e = .returned (.bool (mailL s.data.toList)) ∧ Bl w w' := by
  have eg := enters_of Tryd.func65 (by kernel_rfl) rfl
  cases hc : s.data.toList.contains 64 with
  | false =>
    have HC := cut_no s ⟨#[64]⟩ 64 rfl hc w hm hs
    have R := Lib.hid (show mailL s.data.toList = false by unfold mailL; rw [hc]; rfl)
    clear hc
    go_enter Tryd.func22, Tryd.ntmps22
    go_wp2_with (first | (go_at_call 37; (with_reducible refine HC.mono ?_); rintro e w1 ⟨rfl, hb1⟩))
    go_ret
    exact ⟨ret_bool (by rw [R.out]), hb1⟩
  | true =>
    have HC0 := cut_yes s ⟨#[64]⟩ 64 rfl hc w hm hs
    obtain ⟨A, hA⟩ : ∃ A, headP 64 s = A := ⟨_, rfl⟩
    obtain ⟨B, hB⟩ : ∃ B, tailP 64 s = B := ⟨_, rfl⟩
    rw [hA, hB] at HC0
    have HC := HC0
    clear HC0
    have hAd : s.data.toList.takeWhile (· != 64) = A.data.toList := by rw [← hA]; rfl
    have hBd : (s.data.toList.dropWhile (· != 64)).tail = B.data.toList := by rw [← hB]; rfl
    have hAs : A.size ≤ 1000000 := by rw [← size_len, ← hAd]; have := (List.takeWhile_sublist (· != (64 : UInt8)) (l := s.data.toList)).length_le; rw [size_len] at this; omega
    have hBs : B.size ≤ 1000000 := by
      rw [← size_len, ← hBd, List.length_tail]; have := (List.dropWhile_sublist (· != (64 : UInt8)) (l := s.data.toList)).length_le; rw [size_len] at this; omega
    obtain ⟨ws, hws⟩ : ∃ ws : List UInt8, ws = [46, 33, 35, 36, 37, 38, 39, 42, 43, 47, 61, 63, 94, 95, 96, 123, 124, 125, 126, 45] := ⟨_, rfl⟩
    have R := Lib.hid (show mailL s.data.toList = (!A.data.toList.isEmpty && allL A.data.toList (wordB ws) && (splitC 46 B.data.toList).all partB) by
      unfold mailL; rw [hc, hAd, hBd, hws]; rfl)
    clear hc hA hB hAd hBd
    by_cases h0 : A.size = 0
    · obtain rfl := str_nil h0
      go_enter Tryd.func22, Tryd.ntmps22
      go_wp2_with (first | (go_at_call 37; (with_reducible refine HC.mono ?_); rintro e w1 ⟨rfl, hb1⟩))
      go_ret
      exact ⟨ret_bool (by rw [R.out]; rfl), hb1⟩
    · have hp : 0 < A.size := by omega
      have e1 : A.toList.isEmpty = false := isEmpty_false hp
      have E1 := Lib.hid (data_isEmpty_false hp)
      have HAll : ∀ (W : World) (a : Addr), W.cell? a = some (.string ⟨#[46, 33, 35, 36, 37, 38, 39, 42, 43, 47, 61, 63, 94, 95, 96, 123, 124, 125, 126, 45]⟩) → Calls Tryd.prog 38 #[.string A, .func (.func 65) #[] #[.pointer (some a)]] W fun e w' => e = .returned (.bool (allL A.data.toList (wordB ws))) ∧ W = w' := by
        intro W a hc
        have := fnB_word _ a W hc
        rw [hws]
        exact all_any _ _ _ _ _ (by omega) this eg
      clear h0 hws
      cases ha : allL A.data.toList (wordB ws) with
      | false =>
        rw [ha] at HAll
        go_enter Tryd.func22, Tryd.ntmps22
        go_wp2_with (first | (go_at_call 37; (with_reducible refine HC.mono ?_); rintro e w1 ⟨rfl, hb1⟩) | (go_at_call 39; (with_reducible refine (word_any _ _).mono ?_); rintro e w' ⟨rfl, rfl⟩) | (go_at_call 38; (refine (HAll _ _ (by simp)).mono ?_); rintro e w' ⟨rfl, rfl⟩))
        go_ret
        exact ⟨ret_bool (by rw [R.out, ha]; simp), hb1.alloc _⟩
      | true =>
        rw [ha] at HAll
        have HA := Lib.hid ha
        clear ha
        go_enter Tryd.func22, Tryd.ntmps22
        go_wp2_with (first | (go_at_call 37; (with_reducible refine HC.mono ?_); rintro e w1 ⟨rfl, hb1⟩) | (go_at_call 39; (with_reducible refine (word_any _ _).mono ?_); rintro e w' ⟨rfl, rfl⟩) | (go_at_call 38; (refine (HAll _ _ (by simp)).mono ?_); rintro e w' ⟨rfl, rfl⟩) | (go_at_call 41; (refine (split_is _ _ 46 rfl _ (hm.bl (hb1.alloc _)) hBs).mono ?_); rintro e w2 ⟨Bk, P, hP, rfl, hb2, hrow, hPl, hPs⟩; have HP := Lib.hid hP; clear hP; have HS := Lib.hid hPs; clear hPs))
        have hbw := (hb1.alloc _).trans hb2
        go_loopw [29] (fun i wr => ∃ k : Nat, k ≤ P.length ∧ i = .int .i64 k ∧ Bl w2 wr ∧ Hid ((P.take k).all (fun s => partB s.data.toList) = true)) (fun i _ => P.length - (intOf i).toNat)
        case atStart => exact ⟨0, Nat.zero_le _, rfl, Bl.refl _, Lib.hid (by simp)⟩
        case round =>
          obtain ⟨k, hk, rfl, hb, hall⟩ := hrel
          by_cases hlt : k < P.length
          · obtain ⟨x, hx⟩ : ∃ x, P[k] = x := ⟨_, rfl⟩
            have hcell := (hrow.bl hb).out k hlt
            rw [hx] at hcell
            have hxs : x.size ≤ 140737488351232 := by have := HS.out x (by rw [← hx]; exact List.getElem_mem hlt); omega
            have HP2 := fun W => part_any x W hxs
            have H1 := Lib.hid (all_part P k hlt)
            have X := Lib.hid hx
            clear hx
            cases hpb : partB x.data.toList with
            | true =>
              rw [hpb] at HP2
              have HB := Lib.hid hpb
              clear hpb
              go_wp2_with (first | (go_at_call 42; (with_reducible refine (HP2 _).mono ?_); rintro e w3 ⟨rfl, hb3⟩))
              go_roundw
              case rel => exact ⟨k + 1, by omega, by go_num, hb.trans hb3, Lib.hid (by rw [H1.out, hall.out, X.out, HB.out]; rfl)⟩
              case measure => simp [intOf]; omega
            | false =>
              rw [hpb] at HP2
              have HB := Lib.hid hpb
              clear hpb
              go_wp2_with (first | (go_at_call 42; (with_reducible refine (HP2 _).mono ?_); rintro e w3 ⟨rfl, hb3⟩))
              go_ret
              exact ⟨ret_bool (by rw [R.out, ← HP.out, mail_no P k hlt (by rw [X.out]; exact HB.out)]; simp), (hbw.trans hb).trans hb3⟩
          · go_wp2
            go_ret
            refine ⟨ret_bool ?_, hbw.trans hb⟩
            have h := hall.out
            rw [List.take_of_length_le (by omega)] at h
            rw [R.out, E1.out, HA.out, ← HP.out, List.all_map]
            exact h.symm

end Go.Proofs.YtgamlckdjfjobaaDoor
