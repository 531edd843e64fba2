/- The contract of span.Code. -/
import Derived.Test.YtgamlckdjfjobaaDoorStrip
namespace Go.Proofs.YtgamlckdjfjobaaDoor
open Go.RowKit

theorem idx_yes (t : ByteArray) (c : UInt8) (n : Int) (hn : n = (c.toNat : Int)) (j : Nat) (h : t.data.toList.contains c = true) (hj : (t.data.toList.takeWhile (· != c)).length = j) (w : World) :
    Calls Tryd.prog 19 #[.string t, .int .u8 n] w fun e w' => e = .returned (.int .i64 j) ∧ w = w' := by
  subst hn; subst hj
  refine (Tryd.strings_IndexByte t _ w).mono ?_
  rintro e w' ⟨rfl, rfl⟩
  refine ⟨ret_int ?_, rfl⟩
  rw [← indexByte_in h]; simp
theorem idx_no (t : ByteArray) (c : UInt8) (n : Int) (hn : n = (c.toNat : Int)) (h : t.data.toList.contains c = false) (w : World) :
    Calls Tryd.prog 19 #[.string t, .int .u8 n] w fun e w' => e = .returned (.int .i64 (-1)) ∧ w = w' := by
  subst hn
  refine (Tryd.strings_IndexByte t _ w).mono ?_
  rintro e w' ⟨rfl, rfl⟩
  refine ⟨ret_int ?_, rfl⟩
  rw [← indexByte_out h]; simp
theorem run_is (t : ByteArray) (m : Nat) (h : runL t.data.toList = m) (hs : t.size ≤ 140737488351232) (w : World) :
    Calls Tryd.prog 16 #[.string t] w fun e w' => e = .returned (.int .i64 m) ∧ Bl w w' := by
  subst h; exact run_any t w hs
theorem hasPrefix_is (s p : ByteArray) (b : Bool) (h : Lib.hasPrefix s.data.toList p.data.toList = b) (w : World) :
    Calls Tryd.prog 18 #[.string s, .string p] w fun e w' => e = .returned (.bool b) ∧ w = w' := by
  subst h
  refine (Tryd.strings_HasPrefix s p w).mono ?_
  rintro e w' ⟨rfl, rfl⟩
  exact ⟨rfl, rfl⟩

theorem hasPrefix_one' (c : UInt8) (hc : c ≠ 0) (l : List UInt8) : Lib.hasPrefix l [c] = (l.headD 0 == c) := by
  cases l with
  | nil => 
    have : (0 == c) = false := by simpa using fun h => hc h.symm
    simp [Lib.hasPrefix, this]
  | cons a l => exact hasPrefix_one c _ (by simp)

def codeV (l : List UInt8) : Value := .tuple #[.string (mkB (codeL l).1), .int .i64 (codeL l).2]

theorem codeV_no {l : List UInt8} (h : (l.headD 0 == 96) = false) : codeV l = .tuple #[.string ⟨#[]⟩, .int .i64 0] := by
  unfold codeV codeL; rw [if_neg (by rw [h]; decide)]; rfl
theorem codeV_none {l : List UInt8} (h : codeGo (runL l) (l.length + 1) (l.drop (runL l)) = none) : codeV l = .tuple #[.string ⟨#[]⟩, .int .i64 0] := by
  unfold codeV codeL
  split
  · rw [h]; rfl
  · rfl
theorem codeV_some {l : List UInt8} {p : Nat} (h0 : (l.headD 0 == 96) = true) (h : codeGo (runL l) (l.length + 1) (l.drop (runL l)) = some p) :
    codeV l = .tuple #[.string (mkB (stripL ((l.drop (runL l)).take p))), .int .i64 ((runL l + p + runL l : Nat) : Int)] := by
  unfold codeV codeL
  rw [if_pos h0, h]

set_option maxHeartbeats 400000 in
theorem code_any (s : ByteArray) (w : World) (hm : MaxAt w) (hs : s.size ≤ 1000000) :
    Calls Tryd.prog 10 #[.string s] w fun e w' => e = .returned (codeV s.data.toList) ∧ Bl w w' := by
  have hp1 := hasPrefix_one' 96 (by decide) s.data.toList
  obtain ⟨n, hn⟩ : ∃ n, runL s.data.toList = n := ⟨_, rfl⟩
  have hnl : n ≤ s.size := by rw [← hn, ← size_len]; exact runL_le _
  cases hp : (s.data.toList.headD 0 == 96) with
  | false =>
    have C := Lib.hid (codeV_no hp)
    have HP := fun W => hasPrefix_is s ⟨#[96]⟩ false (hp1.trans hp) W
    clear hp1 hp hn
    go_enter Tryd.func10, Tryd.ntmps10
    go_wp2_with (first | (go_at_call 18; (with_reducible refine (HP _).mono ?_); rintro e w' ⟨rfl, rfl⟩))
    go_ret2
    exact ⟨by rw [C.out]; rfl, Bl.refl _⟩
  | true =>
    have HP := fun W => hasPrefix_is s ⟨#[96]⟩ true (hp1.trans hp) W
    have HR := fun W => run_is s n hn (by omega) W
    have N := Lib.hid hn
    have P := Lib.hid hp
    clear hp1 hp hn
    go_enter Tryd.func10, Tryd.ntmps10
    go_wp2_with (first | (go_at_call 18; (with_reducible refine (HP _).mono ?_); rintro e w' ⟨rfl, rfl⟩) | (go_at_call 16; (with_reducible refine (HR _).mono ?_); rintro e w1 ⟨rfl, hb1⟩))
    go_loopw [5] (fun i wr => ∃ a f : Nat, n ≤ a ∧ a ≤ s.size ∧ i = .int .i64 a ∧ Bl w wr ∧ Hid (s.size - a < f ∧ codeGo n (s.size + 1) (s.data.toList.drop n) = (codeGo n f (s.data.toList.drop a)).map (· + (a - n)))) (fun i _ => s.size - (intOf i).toNat)
    case atStart => exact ⟨n, s.size + 1, Nat.le_refl _, hnl, rfl, hb1, Lib.hid ⟨by omega, by simp⟩⟩
    case round =>
      obtain ⟨a, f, ha1, ha2, rfl, hb, hrel⟩ := hrel
      obtain ⟨R, eR⟩ : ∃ R, s.extract a s.size = R := ⟨_, rfl⟩
      have hRd : R.data.toList = s.data.toList.drop a := by rw [← eR]; exact Lib.extract_to_end s a
      have hRs : R.size = s.size - a := by rw [← size_len, hRd, List.length_drop, size_len]
      obtain ⟨f, rfl⟩ : ∃ g, f = g + 1 := ⟨f - 1, by have := hrel.out.1; omega⟩
      cases hc : R.data.toList.contains 96 with
      | false =>
        have HI := fun W => idx_no R 96 96 rfl hc W
        have C := Lib.hid (codeV_none (l := s.data.toList) (by rw [N.out, size_len, hrel.out.2, codeGo, ← hRd, if_neg (by rw [hc]; decide)]; rfl))
        clear hRd hRs hc hrel
        go_wp2_with (first | (go_at_call 19; (with_reducible refine (HI _).mono ?_); rintro e w' ⟨rfl, rfl⟩))
        go_ret2
        exact ⟨by rw [C.out]; rfl, hb⟩
      | true =>
        obtain ⟨j, hj⟩ : ∃ j, (R.data.toList.takeWhile (· != 96)).length = j := ⟨_, rfl⟩
        have hjl : j < R.size := by rw [← hj, ← size_len]; exact takeWhile_lt hc
        have HI := fun W => idx_yes R 96 96 rfl j hc hj W
        obtain ⟨R2, eR2⟩ : ∃ R2, s.extract (a + j) s.size = R2 := ⟨_, rfl⟩
        have hR2d : R2.data.toList = R.data.toList.drop j := by rw [← eR2, Lib.extract_to_end, hRd, List.drop_drop]
        have hR2s : R2.size = s.size - (a + j) := by rw [← eR2, ByteArray.size_extract]; omega
        obtain ⟨m, hmm⟩ : ∃ m, runL R2.data.toList = m := ⟨_, rfl⟩
        have hm1 : 0 < m := by
          rw [← hmm]; refine runL_pos _ ?_
          intro e
          have := size_len R2
          rw [e] at this; simp at this; omega
        have hml : m ≤ R2.size := by rw [← hmm, ← size_len]; exact runL_le _
        have HR2 := fun W => run_is R2 m hmm (by omega) W
        have HG := Lib.hid (show codeGo n (f + 1) R.data.toList = if m = n then some j else (codeGo n f (R.data.toList.drop (j + m))).map (· + (j + m)) by
          rw [codeGo, if_pos hc, hj, ← hR2d, hmm])
        have hjs : a + j < s.size := by omega
        have hjm : a + j + m ≤ s.size := by omega
        have E := Lib.hid hRd
        have Z := Lib.hid hRs
        clear hRd hRs hc hj hR2d hR2s hmm
        by_cases hmn : m = n
        · subst hmn
          have C := Lib.hid (codeV_some (l := s.data.toList) (p := j + (a - m)) P.out (by rw [N.out, size_len, hrel.out.2, ← E.out, HG.out, if_pos rfl]; rfl))
          obtain ⟨R3, eR3⟩ : ∃ R3, s.extract m (a + j) = R3 := ⟨_, rfl⟩
          have hR3 : stripB R3 = mkB (stripL ((s.data.toList.drop m).take (j + (a - m)))) := by
            unfold stripB
            rw [← eR3, Lib.extract_data]
            have e1 : a + j - m = j + (a - m) := by omega
            rw [e1]
          have hR3s : R3.size ≤ 1000000 := by rw [← eR3, ByteArray.size_extract]; omega
          have H3 := fun W hW => stripped_any R3 W hW hR3s
          rw [hR3] at H3
          have N2 := Lib.hid N.out
          clear hR3 hR3s N
          go_wp2_with (first | (go_at_call 19; (with_reducible refine (HI _).mono ?_); rintro e w' ⟨rfl, rfl⟩) | (go_at_call 16; (with_reducible refine (HR2 _).mono ?_); rintro e w2 ⟨rfl, hb2⟩) | (go_at_call 20; (with_reducible refine (H3 _ (hm.bl (hb.trans hb2))).mono ?_); rintro e w3 ⟨rfl, hb3⟩))
          go_ret2
          refine ⟨?_, (hb.trans hb2).trans hb3⟩
          rw [C.out, N2.out]
          have e2 : (m : Int) + ((j + (a - m) : Nat) : Int) + (m : Int) = (a : Int) + (j : Int) + (m : Int) := by omega
          rw [Int.natCast_add, Int.natCast_add, e2]
          rfl
        · have hne : ((m : Int) == (n : Int)) = false := by simpa using fun h => hmn (by omega)
          have M := Lib.hid hmn
          clear hmn
          go_wp2_with (first | (go_at_call 19; (with_reducible refine (HI _).mono ?_); rintro e w' ⟨rfl, rfl⟩) | (go_at_call 16; (with_reducible refine (HR2 _).mono ?_); rintro e w2 ⟨rfl, hb2⟩))
          go_roundw
          case rel =>
            refine ⟨a + j + m, f, by omega, by omega, by go_num, hb.trans hb2, Lib.hid ⟨by have := hrel.out.1; omega, ?_⟩⟩
            rw [hrel.out.2, ← E.out, HG.out, if_neg M.out, Option.map_map, E.out, List.drop_drop]
            have e1 : a + (j + m) = a + j + m := by omega
            rw [e1]
            congr 1
            funext x
            show x + (j + m) + (a - n) = x + (a + j + m - n)
            omega
          case measure => simp [intOf]; omega

end Go.Proofs.YtgamlckdjfjobaaDoor
