/- The walk through the reference's Code. -/
import Derived.Test.YtgamlckdjfjobaaDoorRef9
namespace Go.Proofs.YtgamlckdjfjobaaDoor
open Go.RowKit

theorem strip_no {l : List UInt8} (h : ((lf l).any (· != 32) && (lf l).headD 0 == 32 && (lf l).getLastD 0 == 32) = false) : stripL l = lf l := by
  unfold stripL; rw [if_neg (by rw [h]; decide)]
theorem strip_yes {l : List UInt8} (h : ((lf l).any (· != 32) && (lf l).headD 0 == 32 && (lf l).getLastD 0 == 32) = true) : stripL l = (lf l).tail.dropLast := by
  unfold stripL; rw [if_pos h]
theorem headD_get (m : List UInt8) (x : UInt8) (h : m[0]? = some x) : m.headD 0 = x := by
  rw [List.headD_eq_head?_getD, List.head?_eq_getElem?, h]; rfl
theorem lastD_get (m : List UInt8) (z : Nat) (x : UInt8) (hz : m.length = z + 1) (h : m[z]? = some x) : m.getLastD 0 = x := by
  rw [List.getLastD_eq_getLast?, List.getLast?_eq_getElem?, hz, Nat.add_sub_cancel, h]; rfl
theorem get_lt (m : List UInt8) (k : Nat) (h : k < m.length) : ∃ x, m[k]? = some x := ⟨m[k], List.getElem?_eq_getElem h⟩
theorem half_next (l : List UInt8) (k : Nat) (x : UInt8) (h : l[k]? = some x) (hx : (x == 10) = true) : half l (k + 1) = (half l k).set k 32 ∧ otherL l (k + 1) = otherL l k := by
  have hlt := (List.getElem?_eq_some_iff.1 h).1
  have e : l[k] = x := (List.getElem?_eq_some_iff.1 h).2
  rw [half_succ l k hlt, other_succ l k hlt, e, hx]
  exact ⟨rfl, by simp⟩
theorem half_keep (l : List UInt8) (k : Nat) (x : UInt8) (h : l[k]? = some x) (hx : (x == 10) = false) : half l (k + 1) = half l k ∧ otherL l (k + 1) = (otherL l k || (x != 32)) := by
  have hlt := (List.getElem?_eq_some_iff.1 h).1
  have e : l[k] = x := (List.getElem?_eq_some_iff.1 h).2
  rw [half_same l k hlt (by rw [e]; exact hx), other_succ l k hlt, e, hx]
  exact ⟨rfl, rfl⟩
theorem mid_take (m : List UInt8) (z : Nat) (h : m.length = z + 2) : (m.drop 1).take z = m.tail.dropLast := by
  rw [List.dropLast_eq_take, List.length_tail, h, List.drop_one]; rfl

set_option maxRecDepth 100000 in
set_option maxHeartbeats 8000000 in
theorem r12code_any (s : ByteArray) (w : World) (hs : s.size ≤ 1000000) :
    Calls Tryd.prog 11 #[.string s] w fun e w' => e = .returned (codeV s.data.toList) ∧ Bl w w' := by
  rcases Nat.eq_zero_or_pos s.size with e0 | hp
  · obtain rfl := str_nil e0
    go_enter Tryd.func11, Tryd.ntmps11
    go_wp2
    go_ret2
    exact ⟨rfl, Bl.refl _⟩
  have e1 := isEmpty_false hp
  have hd := headD_at s hp
  have E96 := eq_of_byte (b := s[0]) (c := 96) 96 rfl
  have N96 : ((s[0].toNat : Int) != 96) = !((s[0].toNat : Int) == 96) := rfl
  cases h96 : ((s[0].toNat : Int) == 96) with
  | false =>
    rw [h96] at E96 N96
    have C := Lib.hid (codeV_no (l := s.data.toList) (by rw [hd, ← E96]))
    clear hd E96
    go_enter Tryd.func11, Tryd.ntmps11
    go_wp2
    go_ret2
    exact ⟨by rw [C.out]; rfl, Bl.refl _⟩
  | true =>
    rw [h96] at E96 N96
    have P := Lib.hid (show (s.data.toList.headD 0 == 96) = true by rw [hd, ← E96])
    clear hd E96
    obtain ⟨n, hn⟩ : ∃ n, runL s.data.toList = n := ⟨_, rfl⟩
    have hnl : n ≤ s.size := by rw [← hn, ← size_len]; exact runL_le _
    have HR := fun W => r12run_is s n hn (by omega) W
    have N := Lib.hid hn
    clear hn
    go_enter Tryd.func11, Tryd.ntmps11
    go_wp2_with (first | (go_at_call 17; (with_reducible refine (HR _).mono ?_); rintro e w1 ⟨rfl, hb1⟩))
    clear HR h96 N96
    go_loopw [5] (fun i wr => ∃ a f : Nat, n ≤ a ∧ a ≤ s.size ∧ i = .int .i64 a ∧ Bl w wr ∧ Hid (s.size - a < f ∧ codeGo n (s.size + 1) (s.data.toList.drop n) = (codeGo n f (s.data.toList.drop a)).map (· + (a - n)))) (fun i _ => s.size - (intOf i).toNat)
    case atStart => exact ⟨n, s.size + 1, Nat.le_refl _, hnl, rfl, hb1, Lib.hid ⟨by omega, by simp⟩⟩
    case round =>
      clear hb1
      obtain ⟨a, f, ha1, ha2, rfl, hb, hrel⟩ := hrel
      obtain ⟨f, rfl⟩ : ∃ g, f = g + 1 := ⟨f - 1, by have := hrel.out.1; omega⟩
      by_cases hlt : a < s.size
      · have dl : decide (a < s.size) = true := decide_eq_true hlt
        have hdrop : s.data.toList.drop a = s[a] :: s.data.toList.drop (a + 1) := by
          rw [List.drop_eq_getElem_cons (by rw [size_len]; exact hlt)]; rfl
        have E96 := eq_of_byte (b := s[a]) (c := 96) 96 rfl
        have N96 : ((s[a].toNat : Int) != 96) = !((s[a].toNat : Int) == 96) := rfl
        cases h96 : ((s[a].toNat : Int) == 96) with
        | false =>
          rw [h96] at E96 N96
          have H := Lib.hid (show s.size - (a + 1) < f + 1 ∧ codeGo n (s.size + 1) (s.data.toList.drop n) = (codeGo n (f + 1) (s.data.toList.drop (a + 1))).map (· + (a + 1 - n)) by
            refine ⟨by have := hrel.out.1; omega, ?_⟩
            rw [hrel.out.2, hdrop, codeGo_pass n f _ _ E96.symm, Option.map_map]
            congr 1
            funext x
            show x + 1 + (a - n) = x + (a + 1 - n)
            omega)
          clear hdrop E96 hrel
          go_wp2
          go_roundw
          case rel => exact ⟨a + 1, f + 1, by omega, by omega, by go_num, hb, H⟩
          case measure => simp [intOf]; omega
        | true =>
          rw [h96] at E96 N96
          obtain ⟨R2, eR2⟩ : ∃ R2, s.extract a s.size = R2 := ⟨_, rfl⟩
          have hR2d : R2.data.toList = s.data.toList.drop a := by rw [← eR2]; exact Lib.extract_to_end s a
          have hR2s : R2.size = s.size - a := by rw [← size_len, hR2d, List.length_drop, size_len]
          obtain ⟨m, hmm⟩ : ∃ m, runL R2.data.toList = m := ⟨_, rfl⟩
          have hm1 : 0 < m := by rw [← hmm]; refine runL_pos _ ?_; rw [hR2d, hdrop]; simp
          have hml : m ≤ R2.size := by rw [← hmm, ← size_len]; exact runL_le _
          have HR2 := fun W => r12run_is R2 m hmm (by omega) W
          have HG := Lib.hid (show codeGo n (f + 1) (s.data.toList.drop a) = if m = n then some 0 else (codeGo n f (s.data.toList.drop (a + m))).map (· + m) by
            rw [codeGo_tick n f _ (by rw [hdrop]; exact E96.symm), ← hR2d, hmm, hR2d, List.drop_drop])
          have ham : a + m ≤ s.size := by omega
          clear hdrop E96 hR2d hmm
          by_cases hmn : m = n
          · subst hmn
            obtain ⟨R3, eR3⟩ : ∃ R3, s.extract m a = R3 := ⟨_, rfl⟩
            have hR3s : R3.size = a - m := by rw [← eR3, ByteArray.size_extract]; omega
            have C := Lib.hid (show codeV s.data.toList = .tuple #[.string (mkB (stripL R3.data.toList)), .int .i64 ((a : Int) + (m : Int))] by
              rw [codeV_some (l := s.data.toList) (p := 0 + (a - m)) P.out (by rw [N.out, size_len, hrel.out.2, HG.out, if_pos rfl]; rfl), N.out, ← eR3, Lib.extract_data]
              have e1 : 0 + (a - m) = a - m := by omega
              have e2 : ((m + (a - m) + m : Nat) : Int) = (a : Int) + (m : Int) := by omega
              rw [e1, e2])
            have N2 := Lib.hid N.out
            clear N P hrel HG
            go_wp2_with fail
            refine (HR2 _).mono ?_
            rintro e w2 ⟨rfl, hb2⟩
            have hcv := Lib.run_convert_string_bytes (P := Tryd.prog) w2 9 33 5 R3 (u := .string) Tryd.underlying9 Tryd.underlying33 Tryd.underlying5
            have hB := Buf.new w w2 5 R3 (hb.trans hb2)
            have hcap := grownCap_ge w2 R3.size 0 5
            obtain ⟨W1, hW1⟩ : ∃ W1, Lib.bytesWorld w2 5 R3 = W1 := ⟨_, rfl⟩
            obtain ⟨cap, hcp⟩ : ∃ cap, grownCap w2 R3.size 0 5 = cap := ⟨_, rfl⟩
            obtain ⟨B, hBe⟩ : ∃ B, w2.heap.size = B := ⟨_, rfl⟩
            have hl0 : R3.data.toList.length = R3.size := size_len R3
            obtain ⟨l, hl⟩ : ∃ l, R3.data.toList = l := ⟨_, rfl⟩
            obtain ⟨L, hL⟩ : ∃ L, R3.size = L := ⟨_, rfl⟩
            rw [hW1, hcp, hBe, hL] at hcv
            rw [hW1, hBe, hl] at hB
            rw [hl, hL] at hl0
            rw [hcp, hL] at hcap
            rw [hl] at C
            have hLs : L ≤ 1000000 := by omega
            have HL := Lib.hid hl0
            clear hW1 hcp hBe hl hL hl0 hR3s
            go_wp2
            clear hcv
            go_loopw [8, 9] (fun o j wr => ∃ k : Nat, k ≤ L ∧ o = .bool (otherL l k) ∧ j = .int .i64 k ∧ Buf w wr B (half l k)) (fun _ j _ => L - (intOf j).toNat)
            case atStart => exact ⟨0, Nat.zero_le _, rfl, rfl, hB⟩
            case round =>
              clear hB
              obtain ⟨k, hk, rfl, rfl, hB⟩ := hrel
              by_cases hkl : k < L
              · have dk : decide (k < L) = true := decide_eq_true hkl
                obtain ⟨x, hx⟩ := get_lt l k (by rw [HL.out]; exact hkl)
                have hxh : (half l k)[k]? = some x := by rw [half_at l k (by rw [HL.out]; exact hkl)]; exact hx
                have hlen : k < (half l k).length := by rw [half_len l k (by rw [HL.out]; exact hk), HL.out]; exact hkl
                have c0 := hB.cell k x hxh
                have f0 := hB.free k hlen
                have E10 := eq_of_byte (b := x) (c := 10) 10 rfl
                obtain ⟨o, ho⟩ : ∃ o, otherL l k = o := ⟨_, rfl⟩
                cases h10 : ((x.toNat : Int) == 10) with
                | true =>
                  rw [h10] at E10
                  have hB2 := hB.set k hlen 32 32 rfl
                  have HN := half_next l k x hx E10.symm
                  rw [← HN.1] at hB2
                  have HO := Lib.hid (show otherL l (k + 1) = o from HN.2.trans ho)
                  have HB := Lib.hid hB2
                  rw [ho]
                  clear HN hB2 hB hx hxh hlen E10 ho
                  cases o with
                  | true =>
                    go_wp2
                    repeat (go_quiet (fail); try go_wp2)
                    go_roundw
                    case rel => exact ⟨k + 1, by omega, by rw [HO.out], by go_num, by first | exact HB.out | exact HB.out.drewN _⟩
                    case measure => simp [intOf]; omega
                  | false =>
                    go_wp2
                    repeat (go_quiet (fail); try go_wp2)
                    go_roundw
                    case rel => exact ⟨k + 1, by omega, by rw [HO.out], by go_num, by first | exact HB.out | exact HB.out.drewN _⟩
                    case measure => simp [intOf]; omega
                | false =>
                  rw [h10] at E10
                  have HN := half_keep l k x hx E10.symm
                  have E32 := eq_of_byte (b := x) (c := 32) 32 rfl
                  have N32 : ((x.toNat : Int) != 32) = !((x.toNat : Int) == 32) := rfl
                  cases h32 : ((x.toNat : Int) == 32) with
                  | true =>
                    rw [h32] at E32 N32
                    have HO := Lib.hid (show otherL l (k + 1) = o by rw [HN.2, ho, bne, ← E32]; simp)
                    rw [← HN.1] at hB
                    have HB := Lib.hid hB
                    rw [ho]
                    clear HN hB hx hxh hlen E10 E32 ho
                    cases o with
                    | true =>
                      go_wp2
                      repeat (go_quiet (fail); try go_wp2)
                      go_roundw
                      case rel => exact ⟨k + 1, by omega, by rw [HO.out], by go_num, by first | exact HB.out | exact HB.out.drewN _⟩
                      case measure => simp [intOf]; omega
                    | false =>
                      go_wp2
                      repeat (go_quiet (fail); try go_wp2)
                      go_roundw
                      case rel => exact ⟨k + 1, by omega, by rw [HO.out], by go_num, by first | exact HB.out | exact HB.out.drewN _⟩
                      case measure => simp [intOf]; omega
                  | false =>
                    rw [h32] at E32 N32
                    have HO := Lib.hid (show otherL l (k + 1) = true by rw [HN.2, ho, bne, ← E32]; simp)
                    rw [← HN.1] at hB
                    have HB := Lib.hid hB
                    rw [ho]
                    clear HN hB hx hxh hlen E10 E32 ho
                    cases o with
                    | true =>
                      go_wp2
                      repeat (go_quiet (fail); try go_wp2)
                      go_roundw
                      case rel => exact ⟨k + 1, by omega, by rw [HO.out], by go_num, by first | exact HB.out | exact HB.out.drewN _⟩
                      case measure => simp [intOf]; omega
                    | false =>
                      go_wp2
                      repeat (go_quiet (fail); try go_wp2)
                      go_roundw
                      case rel => exact ⟨k + 1, by omega, by rw [HO.out], by go_num, by first | exact HB.out | exact HB.out.drewN _⟩
                      case measure => simp [intOf]; omega
              · obtain rfl : k = L := by omega
                have dk : decide (k < k) = false := decide_eq_false (by omega)
                have hB3 : Buf w wr B (lf l) := by rw [← half_all, HL.out]; exact hB
                have ho : otherL l k = (lf l).any (· != 32) := by rw [← other_all, HL.out]
                have hM : (lf l).length = k := by rw [lf_len, HL.out]
                have hS1 := strip_no (l := l)
                have hS2 := strip_yes (l := l)
                obtain ⟨M, hMe⟩ : ∃ M, lf l = M := ⟨_, rfl⟩
                rw [hMe] at hB3 ho hM hS1 hS2
                obtain ⟨q, hq⟩ : ∃ q, stripL l = q := ⟨_, rfl⟩
                rw [hq] at hS1 hS2 C
                have hcw := hB3.string 0 k cap M (by rw [List.drop_zero, List.take_of_length_le (by omega)]) (by omega)
                clear hMe hq hB
                cases oo : M.any (· != 32) with
                | false =>
                  rw [oo] at ho
                  have C2 := Lib.hid (show codeV s.data.toList = .tuple #[.string (mkB M), .int .i64 ((a : Int) + (m : Int))] by rw [C.out, hS1 (by rw [oo]; rfl)])
                  rw [ho]
                  have hb3 := hB3.bl
                  clear C hS1 hS2 ho hB3 oo hM
                  go_wp2
                  repeat (go_quiet (fail); try go_wp2)
                  go_ret2
                  exact ⟨by rw [C2.out]; rfl, by first | exact hb3 | exact hb3.drewN _⟩
                | true =>
                  rw [oo] at ho
                  rw [ho]
                  have hkp : 0 < k := by
                    rcases Nat.eq_zero_or_pos k with h | h
                    · rw [h] at hM
                      rw [List.length_eq_zero_iff.mp hM] at oo; cases oo
                    · exact h
                  obtain ⟨x, hx⟩ := get_lt M 0 (by omega)
                  have c0 := hB3.cell 0 x hx
                  have hh := headD_get M x hx
                  have E32 := eq_of_byte (b := x) (c := 32) 32 rfl
                  cases h32 : ((x.toNat : Int) == 32) with
                  | false =>
                    rw [h32] at E32
                    have C2 := Lib.hid (show codeV s.data.toList = .tuple #[.string (mkB M), .int .i64 ((a : Int) + (m : Int))] by rw [C.out, hS1 (by rw [oo, hh, ← E32]; rfl)])
                    have hb3 := hB3.bl
                    clear C hS1 hS2 ho hB3 oo hM hh hx E32
                    go_wp2
                    repeat (go_quiet (fail); try go_wp2)
                    go_ret2
                    exact ⟨by rw [C2.out]; rfl, by first | exact hb3 | exact hb3.drewN _⟩
                  | true =>
                    rw [h32] at E32
                    have h2 := two_of_blank M oo (by rw [hh, ← E32])
                    obtain ⟨z, rfl⟩ : ∃ z, k = z + 2 := ⟨k - 2, by omega⟩
                    obtain ⟨y, hy⟩ := get_lt M (z + 1) (by omega)
                    have c1 := hB3.cell (z + 1) y hy
                    have hlst := lastD_get M (z + 1) y hM hy
                    have F32 := eq_of_byte (b := y) (c := 32) 32 rfl
                    have iz : ((z + 2 : Nat) : Int) - 1 = ((z + 1 : Nat) : Int) := by omega
                    cases g32 : ((y.toNat : Int) == 32) with
                    | false =>
                      rw [g32] at F32
                      have C2 := Lib.hid (show codeV s.data.toList = .tuple #[.string (mkB M), .int .i64 ((a : Int) + (m : Int))] by rw [C.out, hS1 (by rw [oo, hh, hlst, ← E32, ← F32]; rfl)])
                      have hb3 := hB3.bl
                      clear C hS1 hS2 ho hB3 oo hM hh hx E32 hlst F32 hy h2
                      go_wp2
                      repeat (go_quiet (fail); try go_wp2)
                      go_ret2
                      exact ⟨by rw [C2.out]; rfl, by first | exact hb3 | exact hb3.drewN _⟩
                    | true =>
                      rw [g32] at F32
                      have C2 := Lib.hid (show codeV s.data.toList = .tuple #[.string (mkB M.tail.dropLast), .int .i64 ((a : Int) + (m : Int))] by rw [C.out, hS2 (by rw [oo, hh, hlst, ← E32, ← F32]; rfl)])
                      have hcx := hB3.string 1 z (cap - 1) M.tail.dropLast (mid_take M z hM) (by omega)
                      have hb3 := hB3.bl
                      clear C hS1 hS2 ho hB3 oo hM hh hx E32 hlst F32 hy h2 hcw
                      go_wp2
                      repeat (go_quiet (fail); try go_wp2)
                      go_ret2
                      exact ⟨by rw [C2.out]; rfl, by first | exact hb3 | exact hb3.drewN _⟩
          · have hne : ((m : Int) == (n : Int)) = false := by simpa using fun h => hmn (by omega)
            have H := Lib.hid (show s.size - (a + m) < f ∧ codeGo n (s.size + 1) (s.data.toList.drop n) = (codeGo n f (s.data.toList.drop (a + m))).map (· + (a + m - n)) by
              refine ⟨by have := hrel.out.1; omega, ?_⟩
              rw [hrel.out.2, HG.out, if_neg hmn, Option.map_map]
              congr 1
              funext x
              show x + m + (a - n) = x + (a + m - n)
              omega)
            clear hmn hrel HG
            go_wp2_with (first | (go_at_call 17; (with_reducible refine (HR2 _).mono ?_); rintro e w2 ⟨rfl, hb2⟩))
            go_roundw
            case rel => exact ⟨a + m, f, by omega, by omega, by go_num, hb.trans hb2, H⟩
            case measure => simp [intOf]; omega
      · obtain rfl : a = s.size := by omega
        have dl : decide (s.size < s.size) = false := decide_eq_false (by omega)
        have C := Lib.hid (codeV_none (l := s.data.toList) (by
          rw [N.out, size_len, hrel.out.2, List.drop_of_length_le (by rw [size_len]; exact Nat.le_refl _)]; rfl))
        clear hrel
        go_wp2
        go_ret2
        exact ⟨by rw [C.out]; rfl, hb⟩

end Go.Proofs.YtgamlckdjfjobaaDoor
