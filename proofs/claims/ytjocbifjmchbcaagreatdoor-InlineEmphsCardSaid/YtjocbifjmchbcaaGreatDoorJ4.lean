/- Words, laws and walks that the card stands on, joined out of several texts: part 4. -/
import Derived.Test.YtjocbifjmchbcaaGreatDoorJ3
import Derived.Test.YtjocbifjmchbcaaGreatDoorJ2
import Derived.Test.YtjocbifjmchbcaaGreatDoorJ1
/- The parser's signs. -/
namespace Go.Proofs.YtjocbifjmchbcaaGreatDoor
open Go.RowKit

/-- The parser's own block behind an append to its pieces. -/
theorem app_block {w w1 w2 : World} {base pb lc : Nat} {lo : Option Addr} {n : Nat} {xs : List Value} {cs : Array Value} (hb : Bl w w1) (h1 : w.heap[pb]? = some (.cells cs 46 (0, 0)))
    (h2 : w.ownsRow base 65 1 (.slice lo n lc) n xs) (hg : w1.grownBy w2 (Value.slice lo n lc).ownBlock) : w2.heap[pb]? = some (.cells cs 46 (0, 0)) := by
  have k1 : w1.ownsRow base 65 1 (.slice lo n lc) n xs := h2.kept (grownBy_of_bl hb none) (by cases (Value.slice lo n lc).ownBlock <;> simp)
  have e1 : w1.heap[pb]? = some (.cells cs 46 (0, 0)) := by rw [hb.block (heap_lt h1)]; exact h1
  rw [hg.block pb (heap_lt e1) (fun e => by
    rcases row_far k1 e1 (by decide) with h | h
    · rw [h] at e; cases e
    · exact h e.symm)]
  exact e1
set_option maxRecDepth 100000 in
set_option maxHeartbeats 4000000 in
theorem signs_any (w0 w : World) (pb : Nat) (s : List UInt8) (dv nv : Value) (m : Int) (a : Pa) (c : UInt8) (hZ : Pz w0 w pb s dv nv m a) (hT : Lib.Utf8Tabs 0 1 w0) (ha : a.at_ < s.length) (hs : s.length ≤ 1000000) (hl : a.l.length ≤ 1000000) :
    Calls Tryz.prog 33 #[.pointer (some ⟨pb, 0, none⟩), .int .u8 (c.toNat : Int)] w fun e w' => e = .returned (.tuple #[]) ∧ Pz w0 w' pb s dv nv m (signsL s c a) := by
  obtain ⟨lo, lc, xs, h1, h2, h3⟩ := hZ.ex
  obtain ⟨ip, hip, hpz, hps, hpb⟩ := info_parts infoPiece
  have hb := heap_lt h1
  have c0 : w.cell? ⟨pb, 0, none⟩ = some (.string (mkB s)) := by rw [Lib.cell_of_heap h1]; rfl
  have c1 : w.cell? ⟨pb, 1, none⟩ = some (.int .i64 (a.at_ : Int)) := by rw [Lib.cell_of_heap h1]; rfl
  have c2 : w.cell? ⟨pb, 2, none⟩ = some (.slice lo a.l.length lc) := by rw [Lib.cell_of_heap h1]; rfl
  have hN := runL_le (s.drop a.at_)
  have hN2 : runL (s.drop a.at_) ≤ s.length - a.at_ := by rw [← List.length_drop]; exact hN
  have hRS := fun W (hW : Pz w0 W pb s dv nv m a) => rest_any w0 W pb s dv nv m a hW (Nat.le_of_lt ha)
  have hrun := fun W => run_any (mkB (s.drop a.at_)) W (by rw [mkB_size, List.length_drop]; omega)
  rw [mkB_data] at hrun
  have hDef : signsL s c a = if (c == 126 && decide (2 < runL (s.drop a.at_))) = true then a.add 14 ((s.drop a.at_).take (runL (s.drop a.at_))) [] .nil (runL (s.drop a.at_)) else ⟨a.at_ + runL (s.drop a.at_), a.l ++ [.run ⟨c, runL (s.drop a.at_), (flankR (lastI (s.take a.at_)) (firstI (s.drop (a.at_ + runL (s.drop a.at_)))) (c.toNat : Int)).1, (flankR (lastI (s.take a.at_)) (firstI (s.drop (a.at_ + runL (s.drop a.at_)))) (c.toNat : Int)).2⟩]⟩ := rfl
  rw [hDef]
  clear hDef
  have hTX := fun W => text_any ((s.drop a.at_).take (runL (s.drop a.at_))) W
  have hY := sliceTo (s.drop a.at_) (runL (s.drop a.at_)) hN
  rw [← hY] at hTX
  have h126 := eq_of_byte (b := c) (c := 126) 126 rfl
  cases hc : (c == 126 && decide (2 < runL (s.drop a.at_))) with
  | true =>
    rw [if_pos rfl]
    rw [Bool.and_eq_true] at hc
    have hAD := fun W (hW : Pz w0 W pb s dv nv m a) => padd_any w0 W pb s dv nv m a hW 14 ((s.drop a.at_).take (runL (s.drop a.at_))) [] _ .nil (Rep.nil _ _) (runL (s.drop a.at_)) hl (by omega) (by omega)
    rw [← hY] at hAD
    obtain ⟨n, hn⟩ : ∃ n, runL (s.drop a.at_) = n := ⟨_, rfl⟩
    have e1 : ((c.toNat : Int) == 126) = true := by rw [h126]; exact hc.1
    have e2 : decide ((2 : Int) < (n : Int)) = true := by rw [← hn]; exact decide_eq_true (by have := of_decide_eq_true hc.2; omega)
    have hRs : (mkB (s.drop a.at_)).size = (s.drop a.at_).length := mkB_size _
    obtain ⟨R, hR⟩ : ∃ R, mkB (s.drop a.at_) = R := ⟨_, rfl⟩
    rw [hn] at hN hrun hTX hAD
    rw [hR] at hRS hrun hTX hAD
    rw [hn]
    have i1 : (n : Int) ≤ (R.size : Int) := by rw [← hR, hRs]; omega
    clear hR hRs hn hY h126 hc
    go_enter Tryz.func33, Tryz.ntmps33
    go_wp2_with fail
    refine (hRS w hZ).mono ?_
    rintro e w1 ⟨rfl, hb1⟩
    dsimp only
    have hZ1 := hZ.more hb1
    go_wp2_with fail
    refine (hrun w1).mono ?_
    rintro e w2 ⟨rfl, hb2⟩
    dsimp only
    have hZ2 := hZ1.more hb2
    go_wp2_with fail
    refine (hRS w2 hZ2).mono ?_
    rintro e w3 ⟨rfl, hb3⟩
    dsimp only
    have hZ3 := hZ2.more hb3
    go_wp2_with fail
    refine (hTX _).mono ?_
    rintro e w4 ⟨rfl, hb4⟩
    dsimp only
    have hZ4 := hZ3.more hb4
    go_wp2_with fail
    refine (hAD w4 hZ4).mono ?_
    rintro e w5 ⟨rfl, hZ5⟩
    dsimp only
    go_wp2
    refine bodyPost_ret (results_none rfl _ _ _) rfl ?_
    exact ⟨rfl, hZ5⟩
  | false =>
    rw [if_neg (by decide)]
    obtain ⟨n, hn⟩ : ∃ n, runL (s.drop a.at_) = n := ⟨_, rfl⟩
    have hLA := fun W (hW : Bl w W) => last_any (s.take a.at_) W (tabs_more hT (hZ.bl.trans hW)) (by rw [List.length_take]; omega)
    have hFI := fun W (hW : Bl w W) => first_any (s.drop (a.at_ + n)) W (tabs_more hT (hZ.bl.trans hW)) (by rw [List.length_drop]; omega)
    have hFL := fun W => flank_any (lastI (s.take a.at_)) (firstI (s.drop (a.at_ + n))) c W
    rw [hn] at hN2 hrun hc ⊢
    obtain ⟨la, hla⟩ : ∃ x, lastI (s.take a.at_) = x := ⟨_, rfl⟩
    obtain ⟨fi, hfi⟩ : ∃ x, firstI (s.drop (a.at_ + n)) = x := ⟨_, rfl⟩
    rw [hla] at hLA hFL ⊢
    rw [hfi] at hFI hFL ⊢
    obtain ⟨op, hop⟩ : ∃ x, (flankR la fi (c.toNat : Int)).1 = x := ⟨_, rfl⟩
    obtain ⟨cl, hcl⟩ : ∃ x, (flankR la fi (c.toNat : Int)).2 = x := ⟨_, rfl⟩
    rw [hop, hcl] at hFL
    rw [hop, hcl]
    have hg : ((c.toNat : Int) == 126) = true → decide ((2 : Int) < (n : Int)) = false := fun h => by
      rw [h126] at h
      rw [h, Bool.true_and] at hc
      exact decide_eq_false (by have := of_decide_eq_false hc; omega)
    obtain ⟨q, hq⟩ : ∃ q, a.at_ = q := ⟨_, rfl⟩
    have hX1 : (mkB s).extract 0 q = mkB (s.take a.at_) := by rw [sliceTo s q (by omega), hq]
    have hX2 : (mkB s).extract (q + n) (mkB s).size = mkB (s.drop (a.at_ + n)) := by rw [extract_mk, mkB_size, List.take_length, hq]
    rw [← hX1] at hLA
    rw [← hX2] at hFI
    have hss := mkB_size s
    obtain ⟨S, hS⟩ : ∃ S, mkB s = S := ⟨_, rfl⟩
    rw [hS] at hLA hFI c0 hss
    have i1 : (q : Int) ≤ (S.size : Int) := by omega
    have i2 : (q : Int) + (n : Int) ≤ (S.size : Int) := by omega
    have i3 : (0 : Int) ≤ (q : Int) + (n : Int) := by omega
    have hSs : S.size ≤ 1000000 := by omega
    obtain ⟨R, hR⟩ : ∃ R, mkB (s.drop a.at_) = R := ⟨_, rfl⟩
    rw [hR] at hRS hrun
    rw [hq] at c1
    have Q := Lib.hid hq
    clear hn hla hfi hop hcl hX1 hX2 hss hS hR hq hTX hY h126 hc
    have main : ∀ W, Bl w W → True := fun _ _ => trivial
    have wq : IntKind.i64.wrap ((q : Int) + (n : Int)) = (q : Int) + (n : Int) := IntWalk.i64_in _ (by omega)
    rw [show q + n = ((q : Int) + (n : Int)).toNat by omega] at hFI
    cases hcc : ((c.toNat : Int) == 126) with
    | true =>
      have e2 := hg hcc
      go_enter Tryz.func33, Tryz.ntmps33
      go_wp2_with fail
      refine (hRS w hZ).mono ?_
      rintro e w1 ⟨rfl, hb1⟩
      dsimp only
      have hZ1 := hZ.more hb1
      go_wp2_with fail
      refine (hrun w1).mono ?_
      rintro e w2 ⟨rfl, hb2⟩
      dsimp only
      have hbw := hb1.trans hb2
      go_wp2_with fail
      have d0 := hbw.cell c0
      have d1 := hbw.cell c1
      have hHeld : (fun w' : World => w'.cell? ⟨pb, 0, none⟩ = some (.string S) ∧ w'.cell? ⟨pb, 1, none⟩ = some (.int .i64 (q : Int))) w2.drew := ⟨d0, d1⟩
      refine wp_region_n (fun w' : World => w'.cell? ⟨pb, 0, none⟩ = some (.string S) ∧ w'.cell? ⟨pb, 1, none⟩ = some (.int .i64 (q : Int))) [0, 1, 2, 3, 4, 5, 6, 7, 8, 10, 11, 12, 13, 14, 15, 16, 17, 18, 19, 20, 22] (by kernel_rfl) ?_
      refine wpAnyN_take (i := 0) (v := ?rv1) rfl (by kernel_rfl) (by kernel_rfl) (by kernel_rfl) (by kernel_rfl) (by kernel_rfl) (fun _ _ _ h => h) (Or.inl ⟨by rfl, ?rh1⟩) hHeld ?_
      case rh1 => (intro w hSw; (try dsimp only at hSw); go_simp; try with_reducible rfl)
      refine wpAnyN_take (i := 1) (v := ?rv2) rfl (by kernel_rfl) (by kernel_rfl) (by kernel_rfl) (by kernel_rfl) (by kernel_rfl) (fun _ _ _ h => h) (Or.inl ⟨by rfl, ?rh2⟩) hHeld ?_
      case rh2 => (intro w hSw; (try dsimp only at hSw); go_simp; try with_reducible rfl)
      refine wpAnyN_take (i := 2) (v := ?rv3) rfl (by kernel_rfl) (by kernel_rfl) (by kernel_rfl) (by kernel_rfl) (by kernel_rfl) (fun _ _ _ h => h) (Or.inl ⟨by rfl, ?rh3⟩) hHeld ?_
      case rh3 => (intro w hSw; (try dsimp only at hSw); go_simp; try with_reducible rfl)
      refine wpAnyN_take (i := 3) (v := ?rv4) rfl (by kernel_rfl) (by kernel_rfl) (by kernel_rfl) (by kernel_rfl) (by kernel_rfl) (fun _ _ _ h => h) (Or.inl ⟨by rfl, ?rh4⟩) hHeld ?_
      case rh4 => (intro w hSw; (try dsimp only at hSw); go_simp; try with_reducible rfl)
      refine wpAnyN_take (i := 4) (v := ?rv5) rfl (by kernel_rfl) (by kernel_rfl) (by kernel_rfl) (by kernel_rfl) (by kernel_rfl) (fun _ _ _ h => h) (Or.inl ⟨by rfl, ?rh5⟩) hHeld ?_
      case rh5 => (intro w hSw; (try dsimp only at hSw); go_simp; try with_reducible rfl)
      refine wpAnyN_take (i := 5) (v := ?rv6) rfl (by kernel_rfl) (by kernel_rfl) (by kernel_rfl) (by kernel_rfl) (by kernel_rfl) (fun _ _ _ h => h) (Or.inl ⟨by rfl, ?rh6⟩) hHeld ?_
      case rh6 => (intro w hSw; (try dsimp only at hSw); go_simp; try with_reducible rfl)
      refine wpAnyN_take (i := 6) (v := ?rv7) rfl (by kernel_rfl) (by kernel_rfl) (by kernel_rfl) (by kernel_rfl) (by kernel_rfl) (fun _ _ _ h => h) (Or.inl ⟨by rfl, ?rh7⟩) hHeld ?_
      case rh7 => (intro w hSw; (try dsimp only at hSw); go_simp; try with_reducible rfl)
      refine wpAnyN_take (i := 7) (v := ?rv8) rfl (by kernel_rfl) (by kernel_rfl) (by kernel_rfl) (by kernel_rfl) (by kernel_rfl) (fun _ _ _ h => h) (Or.inl ⟨by rfl, ?rh8⟩) hHeld ?_
      case rh8 => (intro w hSw; (try dsimp only at hSw); go_simp; try with_reducible rfl)
      refine wpAnyN_take (i := 8) (v := ?rv9) rfl (by kernel_rfl) (by kernel_rfl) (by kernel_rfl) (by kernel_rfl) (by kernel_rfl) (fun _ _ _ h => h) (Or.inl ⟨by rfl, ?rh9⟩) hHeld ?_
      case rh9 => (intro w hSw; (try dsimp only at hSw); go_simp; try with_reducible rfl)
      refine wpAnyN_take (i := 10) (v := ?rv10) rfl (by kernel_rfl) (by kernel_rfl) (by kernel_rfl) (by kernel_rfl) (by kernel_rfl) (fun _ _ _ h => h) (Or.inl ⟨by rfl, ?rh10⟩) hHeld ?_
      case rh10 => (intro w hSw; (try dsimp only at hSw); go_simp; try with_reducible rfl)
      refine wpAnyN_take (i := 11) (v := ?rv11) rfl (by kernel_rfl) (by kernel_rfl) (by kernel_rfl) (by kernel_rfl) (by kernel_rfl) (fun _ _ _ h => h) (Or.inl ⟨by rfl, ?rh11⟩) hHeld ?_
      case rh11 => (intro w hSw; (try dsimp only at hSw); go_simp; try with_reducible rfl)
      refine wpAnyN_take (i := 12) (v := ?rv12) rfl (by kernel_rfl) (by kernel_rfl) (by kernel_rfl) (by kernel_rfl) (by kernel_rfl) (fun _ _ _ h => h) (Or.inl ⟨by rfl, ?rh12⟩) hHeld ?_
      case rh12 => (intro w hSw; (try dsimp only at hSw); go_simp; try with_reducible rfl)
      refine wpAnyN_take (i := 13) (v := ?rv13) rfl (by kernel_rfl) (by kernel_rfl) (by kernel_rfl) (by kernel_rfl) (by kernel_rfl) (fun _ _ _ h => h) (Or.inl ⟨by rfl, ?rh13⟩) hHeld ?_
      case rh13 => (intro w hSw; (try dsimp only at hSw); go_simp; try with_reducible rfl)
      refine wpAnyN_take (i := 14) (v := ?rv14) rfl (by kernel_rfl) (by kernel_rfl) (by kernel_rfl) (by kernel_rfl) (by kernel_rfl) (fun _ _ _ h => h) (Or.inl ⟨by rfl, ?rh14⟩) hHeld ?_
      case rh14 => (intro w hSw; (try dsimp only at hSw); go_simp; try with_reducible rfl)
      refine wpAnyN_take (i := 15) (v := ?rv15) rfl (by kernel_rfl) (by kernel_rfl) (by kernel_rfl) (by kernel_rfl) (by kernel_rfl) (fun _ _ _ h => h) (Or.inl ⟨by rfl, ?rh15⟩) hHeld ?_
      case rh15 => (intro w hSw; (try dsimp only at hSw); go_simp; try with_reducible rfl)
      refine wpAnyN_take (i := 16) (v := ?rv16) rfl (by kernel_rfl) (by kernel_rfl) (by kernel_rfl) (by kernel_rfl) (by kernel_rfl) (fun _ _ _ h => h) (Or.inl ⟨by rfl, ?rh16⟩) hHeld ?_
      case rh16 => (intro w hSw; (try dsimp only at hSw); go_simp; try with_reducible rfl)
      refine wpAnyN_take (i := 17) (v := ?rv17) rfl (by kernel_rfl) (by kernel_rfl) (by kernel_rfl) (by kernel_rfl) (by kernel_rfl) (fun _ _ _ h => h) (Or.inl ⟨by rfl, ?rh17⟩) hHeld ?_
      case rh17 => (intro w hSw; (try dsimp only at hSw); go_simp; try with_reducible rfl)
      refine wpAnyN_take (i := 18) (v := ?rv18) rfl (by kernel_rfl) (by kernel_rfl) (by kernel_rfl) (by kernel_rfl) (by kernel_rfl) (fun _ _ _ h => h) (Or.inl ⟨by rfl, ?rh18⟩) hHeld ?_
      case rh18 => (intro w hSw; (try dsimp only at hSw); go_simp; try with_reducible rfl)
      refine wpAnyN_take (i := 19) (v := ?rv19) rfl (by kernel_rfl) (by kernel_rfl) (by kernel_rfl) (by kernel_rfl) (by kernel_rfl) (fun _ _ _ h => h) (Or.inl ⟨by rfl, ?rh19⟩) hHeld ?_
      case rh19 => (intro w hSw; (try dsimp only at hSw); go_simp; try with_reducible rfl)
      refine wpAnyN_take (i := 20) (v := ?rv20) rfl (by kernel_rfl) (by kernel_rfl) (by kernel_rfl) (by kernel_rfl) (by kernel_rfl) (fun _ _ _ h => h) (Or.inl ⟨by rfl, ?rh20⟩) hHeld ?_
      case rh20 => (intro w hSw; (try dsimp only at hSw); go_simp; try with_reducible rfl)
      refine wpAnyN_take (i := 22) (v := ?rv21) rfl (by kernel_rfl) (by kernel_rfl) (by kernel_rfl) (by kernel_rfl) (by kernel_rfl) (fun _ _ _ h => h) (Or.inl ⟨by rfl, ?rh21⟩) hHeld ?_
      case rh21 => (intro w hSw; (try dsimp only at hSw); go_simp; try with_reducible rfl)
      refine wpAnyN_ready (rs := [9]) (by kernel_rfl) (by simp) ?_
      refine AllN.cons rfl (fun K rK22 => ?_) ?_
      · go_simp
        refine (hLA _ hbw.drew).mono ?_
        rintro e wA ⟨rfl, hbA⟩
        dsimp only
        refine rK22.go _ _ (⟨hbA.cell d0, hbA.cell d1⟩) (fun rS22 => ?_)
        clear rK22 K
        refine wpAnyN_ready (rs := [21]) (by kernel_rfl) (by simp) ?_
        refine AllN.cons rfl (fun K rK23 => ?_) ?_
        · go_simp
          refine (hFI _ (hbw.drew.trans hbA)).mono ?_
          rintro e wB ⟨rfl, hbB⟩
          dsimp only
          refine rK23.go _ _ (⟨hbB.cell (hbA.cell d0), hbB.cell (hbA.cell d1)⟩) (fun rS23 => ?_)
          clear rK23 K
          refine wpAnyN_ready (rs := [23]) (by kernel_rfl) (by simp) ?_
          refine AllN.cons rfl (fun K rK24 => ?_) ?_
          · go_simp
            refine (hFL _).mono ?_
            rintro e wC ⟨rfl, hbC⟩
            dsimp only
            refine rK24.go _ _ (⟨hbC.cell (hbB.cell (hbA.cell d0)), hbC.cell (hbB.cell (hbA.cell d1))⟩) (fun rS24 => ?_)
            clear rK24 K
            refine wpAnyN_ready (rs := [24]) (by kernel_rfl) (by simp) ?_
            refine AllN.cons rfl (fun K rK25 => ?_) ?_
            · go_simp
              refine rK25.go _ _ (⟨hbC.cell (hbB.cell (hbA.cell d0)), hbC.cell (hbB.cell (hbA.cell d1))⟩) (fun rS25 => ?_)
              clear rK25 K
              refine wpAnyN_ready (rs := [25, 26]) (by kernel_rfl) (by simp) ?_
              refine AllN.cons rfl (fun K rK26 => ?_) ?_
              · go_simp
                refine rK26.go _ _ (⟨hbC.cell (hbB.cell (hbA.cell d0)), hbC.cell (hbB.cell (hbA.cell d1))⟩) (fun rS26 => ?_)
                clear rK26 K
                refine wpAnyN_pass (i := 27) (v := ?rv27) rfl (by kernel_rfl) (by kernel_rfl) (by kernel_rfl) (by kernel_rfl) (fun _ _ _ h => h) (Or.inl ⟨by rfl, ?rh27⟩) ?_
                case rh27 => (intro w; go_simp; try with_reducible rfl)
                refine wpAnyN_ready (rs := [26]) (by kernel_rfl) (by simp) ?_
                refine AllN.cons rfl (fun K rK28 => ?_) ?_
                · go_simp
                  refine rK28.go _ _ (⟨hbC.cell (hbB.cell (hbA.cell d0)), hbC.cell (hbB.cell (hbA.cell d1))⟩) (fun rS28 => ?_)
                  clear rK28 K
                  refine wpAnyN_pass (i := 28) (v := ?rv29) rfl (by kernel_rfl) (by kernel_rfl) (by kernel_rfl) (by kernel_rfl) (fun _ _ _ h => h) (Or.inl ⟨by rfl, ?rh29⟩) ?_
                  case rh29 => (intro w; go_simp; try with_reducible rfl)
                  refine wpAnyN_done (by kernel_rfl) ?_ _
                  have hbF : Bl w wC := ((hbw.drew.trans hbA).trans hbB).trans hbC
                  have f1 := heap_lt h1
                  have g1 := (hbF.block f1).trans h1
                  have e2c : wC.cell? ⟨pb, 2, none⟩ = some (.slice lo a.l.length lc) := hbF.cell c2
                  have h2' : wC.ownsRow w0.heap.size 65 1 (.slice lo a.l.length lc) a.l.length xs := h2.kept (grownBy_of_bl hbF none) (by cases (Value.slice lo a.l.length lc).ownBlock <;> simp)
                  have hsz := (hZ.more hbF).bl.size
                  go_wp2_with (at_builtin; go_loud (refine wpList_append_lies _ rfl _ _ 44 rfl w0.heap.size 65 ip _ 1 16 Tryz.underlying44 hip hpz hps hpb rfl (by omega) (.slice lo a.l.length lc) a.l.length xs rfl (h2'.alloc _) ⟨wC.heap.size, 0, none⟩ 1 1 [.iface 69 (.agg #[.int .u8 (c.toNat : Int), .int .i64 (n : Int), .bool op, .bool cl])] rfl rfl (World.news_of_block (cs := #[.iface 69 (.agg #[.int .u8 (c.toNat : Int), .int .i64 (n : Int), .bool op, .bool cl])]) (t := 65) (fr := (0, 0)) (heap_alloc_new wC _)) (by simp [Value.oneCell']) (by omega) (by unfold maxLen; omega) (by omega) (by simp; omega) (wC.heap.size + 1) (by simp) ?_; intro og ocap w7 hown7 hgrow7 hat7 hlt7; have hB7 := app_block (hbF.alloc _) h1 h2 hgrow7; have hE := hZ.app (p := .run ⟨c, n, op, cl⟩) (hbF.alloc _) h1 h2 h3 hgrow7 hown7 rfl (fun b hb => by unfold opV at hb; cases hb); have e7 : w7.cell? ⟨pb, 1, none⟩ = some (.int .i64 (q : Int)) := (by rw [Lib.cell_of_heap hB7, ← Q.out]; rfl); have z7 : w7.frozen? ⟨pb, 1, none⟩ = false := Lib.frozen_of_heap hB7 1; obtain ⟨hZ7, e70, e7z⟩ := hE))
                  go_end0
                  have hF := hZ7.at (a.at_ + n)
                  rw [Int.natCast_add, Q.out] at hF
                  rw [Q.out]
                  exact ⟨rfl, hF⟩
                exact AllN.nil
              refine AllN.cons rfl (fun K rK30 => ?_) ?_
              · go_simp
                refine rK30.go _ _ (⟨hbC.cell (hbB.cell (hbA.cell d0)), hbC.cell (hbB.cell (hbA.cell d1))⟩) (fun rS30 => ?_)
                clear rK30 K
                refine wpAnyN_ready (rs := [25]) (by kernel_rfl) (by simp) ?_
                refine AllN.cons rfl (fun K rK31 => ?_) ?_
                · go_simp
                  refine rK31.go _ _ (⟨hbC.cell (hbB.cell (hbA.cell d0)), hbC.cell (hbB.cell (hbA.cell d1))⟩) (fun rS31 => ?_)
                  clear rK31 K
                  refine wpAnyN_pass (i := 27) (v := ?rv32) rfl (by kernel_rfl) (by kernel_rfl) (by kernel_rfl) (by kernel_rfl) (fun _ _ _ h => h) (Or.inl ⟨by rfl, ?rh32⟩) ?_
                  case rh32 => (intro w; go_simp; try with_reducible rfl)
                  refine wpAnyN_pass (i := 28) (v := ?rv33) rfl (by kernel_rfl) (by kernel_rfl) (by kernel_rfl) (by kernel_rfl) (fun _ _ _ h => h) (Or.inl ⟨by rfl, ?rh33⟩) ?_
                  case rh33 => (intro w; go_simp; try with_reducible rfl)
                  refine wpAnyN_done (by kernel_rfl) ?_ _
                  have hbF : Bl w wC := ((hbw.drew.trans hbA).trans hbB).trans hbC
                  have f1 := heap_lt h1
                  have g1 := (hbF.block f1).trans h1
                  have e2c : wC.cell? ⟨pb, 2, none⟩ = some (.slice lo a.l.length lc) := hbF.cell c2
                  have h2' : wC.ownsRow w0.heap.size 65 1 (.slice lo a.l.length lc) a.l.length xs := h2.kept (grownBy_of_bl hbF none) (by cases (Value.slice lo a.l.length lc).ownBlock <;> simp)
                  have hsz := (hZ.more hbF).bl.size
                  go_wp2_with (at_builtin; go_loud (refine wpList_append_lies _ rfl _ _ 44 rfl w0.heap.size 65 ip _ 1 16 Tryz.underlying44 hip hpz hps hpb rfl (by omega) (.slice lo a.l.length lc) a.l.length xs rfl (h2'.alloc _) ⟨wC.heap.size, 0, none⟩ 1 1 [.iface 69 (.agg #[.int .u8 (c.toNat : Int), .int .i64 (n : Int), .bool op, .bool cl])] rfl rfl (World.news_of_block (cs := #[.iface 69 (.agg #[.int .u8 (c.toNat : Int), .int .i64 (n : Int), .bool op, .bool cl])]) (t := 65) (fr := (0, 0)) (heap_alloc_new wC _)) (by simp [Value.oneCell']) (by omega) (by unfold maxLen; omega) (by omega) (by simp; omega) (wC.heap.size + 1) (by simp) ?_; intro og ocap w7 hown7 hgrow7 hat7 hlt7; have hB7 := app_block (hbF.alloc _) h1 h2 hgrow7; have hE := hZ.app (p := .run ⟨c, n, op, cl⟩) (hbF.alloc _) h1 h2 h3 hgrow7 hown7 rfl (fun b hb => by unfold opV at hb; cases hb); have e7 : w7.cell? ⟨pb, 1, none⟩ = some (.int .i64 (q : Int)) := (by rw [Lib.cell_of_heap hB7, ← Q.out]; rfl); have z7 : w7.frozen? ⟨pb, 1, none⟩ = false := Lib.frozen_of_heap hB7 1; obtain ⟨hZ7, e70, e7z⟩ := hE))
                  go_end0
                  have hF := hZ7.at (a.at_ + n)
                  rw [Int.natCast_add, Q.out] at hF
                  rw [Q.out]
                  exact ⟨rfl, hF⟩
                exact AllN.nil
              exact AllN.nil
            exact AllN.nil
          exact AllN.nil
        exact AllN.nil
      exact AllN.nil
    | false =>
      clear hg
      go_enter Tryz.func33, Tryz.ntmps33
      go_wp2_with fail
      refine (hRS w hZ).mono ?_
      rintro e w1 ⟨rfl, hb1⟩
      dsimp only
      have hZ1 := hZ.more hb1
      go_wp2_with fail
      refine (hrun w1).mono ?_
      rintro e w2 ⟨rfl, hb2⟩
      dsimp only
      have hbw := hb1.trans hb2
      go_wp2_with fail
      have d0 := hbw.cell c0
      have d1 := hbw.cell c1
      have hHeld : (fun w' : World => w'.cell? ⟨pb, 0, none⟩ = some (.string S) ∧ w'.cell? ⟨pb, 1, none⟩ = some (.int .i64 (q : Int))) w2.drew := ⟨d0, d1⟩
      refine wp_region_n (fun w' : World => w'.cell? ⟨pb, 0, none⟩ = some (.string S) ∧ w'.cell? ⟨pb, 1, none⟩ = some (.int .i64 (q : Int))) [0, 1, 2, 3, 4, 5, 6, 7, 8, 10, 11, 12, 13, 14, 15, 16, 17, 18, 19, 20, 22] (by kernel_rfl) ?_
      refine wpAnyN_take (i := 0) (v := ?rv1) rfl (by kernel_rfl) (by kernel_rfl) (by kernel_rfl) (by kernel_rfl) (by kernel_rfl) (fun _ _ _ h => h) (Or.inl ⟨by rfl, ?rh1⟩) hHeld ?_
      case rh1 => (intro w hSw; (try dsimp only at hSw); go_simp; try with_reducible rfl)
      refine wpAnyN_take (i := 1) (v := ?rv2) rfl (by kernel_rfl) (by kernel_rfl) (by kernel_rfl) (by kernel_rfl) (by kernel_rfl) (fun _ _ _ h => h) (Or.inl ⟨by rfl, ?rh2⟩) hHeld ?_
      case rh2 => (intro w hSw; (try dsimp only at hSw); go_simp; try with_reducible rfl)
      refine wpAnyN_take (i := 2) (v := ?rv3) rfl (by kernel_rfl) (by kernel_rfl) (by kernel_rfl) (by kernel_rfl) (by kernel_rfl) (fun _ _ _ h => h) (Or.inl ⟨by rfl, ?rh3⟩) hHeld ?_
      case rh3 => (intro w hSw; (try dsimp only at hSw); go_simp; try with_reducible rfl)
      refine wpAnyN_take (i := 3) (v := ?rv4) rfl (by kernel_rfl) (by kernel_rfl) (by kernel_rfl) (by kernel_rfl) (by kernel_rfl) (fun _ _ _ h => h) (Or.inl ⟨by rfl, ?rh4⟩) hHeld ?_
      case rh4 => (intro w hSw; (try dsimp only at hSw); go_simp; try with_reducible rfl)
      refine wpAnyN_take (i := 4) (v := ?rv5) rfl (by kernel_rfl) (by kernel_rfl) (by kernel_rfl) (by kernel_rfl) (by kernel_rfl) (fun _ _ _ h => h) (Or.inl ⟨by rfl, ?rh5⟩) hHeld ?_
      case rh5 => (intro w hSw; (try dsimp only at hSw); go_simp; try with_reducible rfl)
      refine wpAnyN_take (i := 5) (v := ?rv6) rfl (by kernel_rfl) (by kernel_rfl) (by kernel_rfl) (by kernel_rfl) (by kernel_rfl) (fun _ _ _ h => h) (Or.inl ⟨by rfl, ?rh6⟩) hHeld ?_
      case rh6 => (intro w hSw; (try dsimp only at hSw); go_simp; try with_reducible rfl)
      refine wpAnyN_take (i := 6) (v := ?rv7) rfl (by kernel_rfl) (by kernel_rfl) (by kernel_rfl) (by kernel_rfl) (by kernel_rfl) (fun _ _ _ h => h) (Or.inl ⟨by rfl, ?rh7⟩) hHeld ?_
      case rh7 => (intro w hSw; (try dsimp only at hSw); go_simp; try with_reducible rfl)
      refine wpAnyN_take (i := 7) (v := ?rv8) rfl (by kernel_rfl) (by kernel_rfl) (by kernel_rfl) (by kernel_rfl) (by kernel_rfl) (fun _ _ _ h => h) (Or.inl ⟨by rfl, ?rh8⟩) hHeld ?_
      case rh8 => (intro w hSw; (try dsimp only at hSw); go_simp; try with_reducible rfl)
      refine wpAnyN_take (i := 8) (v := ?rv9) rfl (by kernel_rfl) (by kernel_rfl) (by kernel_rfl) (by kernel_rfl) (by kernel_rfl) (fun _ _ _ h => h) (Or.inl ⟨by rfl, ?rh9⟩) hHeld ?_
      case rh9 => (intro w hSw; (try dsimp only at hSw); go_simp; try with_reducible rfl)
      refine wpAnyN_take (i := 10) (v := ?rv10) rfl (by kernel_rfl) (by kernel_rfl) (by kernel_rfl) (by kernel_rfl) (by kernel_rfl) (fun _ _ _ h => h) (Or.inl ⟨by rfl, ?rh10⟩) hHeld ?_
      case rh10 => (intro w hSw; (try dsimp only at hSw); go_simp; try with_reducible rfl)
      refine wpAnyN_take (i := 11) (v := ?rv11) rfl (by kernel_rfl) (by kernel_rfl) (by kernel_rfl) (by kernel_rfl) (by kernel_rfl) (fun _ _ _ h => h) (Or.inl ⟨by rfl, ?rh11⟩) hHeld ?_
      case rh11 => (intro w hSw; (try dsimp only at hSw); go_simp; try with_reducible rfl)
      refine wpAnyN_take (i := 12) (v := ?rv12) rfl (by kernel_rfl) (by kernel_rfl) (by kernel_rfl) (by kernel_rfl) (by kernel_rfl) (fun _ _ _ h => h) (Or.inl ⟨by rfl, ?rh12⟩) hHeld ?_
      case rh12 => (intro w hSw; (try dsimp only at hSw); go_simp; try with_reducible rfl)
      refine wpAnyN_take (i := 13) (v := ?rv13) rfl (by kernel_rfl) (by kernel_rfl) (by kernel_rfl) (by kernel_rfl) (by kernel_rfl) (fun _ _ _ h => h) (Or.inl ⟨by rfl, ?rh13⟩) hHeld ?_
      case rh13 => (intro w hSw; (try dsimp only at hSw); go_simp; try with_reducible rfl)
      refine wpAnyN_take (i := 14) (v := ?rv14) rfl (by kernel_rfl) (by kernel_rfl) (by kernel_rfl) (by kernel_rfl) (by kernel_rfl) (fun _ _ _ h => h) (Or.inl ⟨by rfl, ?rh14⟩) hHeld ?_
      case rh14 => (intro w hSw; (try dsimp only at hSw); go_simp; try with_reducible rfl)
      refine wpAnyN_take (i := 15) (v := ?rv15) rfl (by kernel_rfl) (by kernel_rfl) (by kernel_rfl) (by kernel_rfl) (by kernel_rfl) (fun _ _ _ h => h) (Or.inl ⟨by rfl, ?rh15⟩) hHeld ?_
      case rh15 => (intro w hSw; (try dsimp only at hSw); go_simp; try with_reducible rfl)
      refine wpAnyN_take (i := 16) (v := ?rv16) rfl (by kernel_rfl) (by kernel_rfl) (by kernel_rfl) (by kernel_rfl) (by kernel_rfl) (fun _ _ _ h => h) (Or.inl ⟨by rfl, ?rh16⟩) hHeld ?_
      case rh16 => (intro w hSw; (try dsimp only at hSw); go_simp; try with_reducible rfl)
      refine wpAnyN_take (i := 17) (v := ?rv17) rfl (by kernel_rfl) (by kernel_rfl) (by kernel_rfl) (by kernel_rfl) (by kernel_rfl) (fun _ _ _ h => h) (Or.inl ⟨by rfl, ?rh17⟩) hHeld ?_
      case rh17 => (intro w hSw; (try dsimp only at hSw); go_simp; try with_reducible rfl)
      refine wpAnyN_take (i := 18) (v := ?rv18) rfl (by kernel_rfl) (by kernel_rfl) (by kernel_rfl) (by kernel_rfl) (by kernel_rfl) (fun _ _ _ h => h) (Or.inl ⟨by rfl, ?rh18⟩) hHeld ?_
      case rh18 => (intro w hSw; (try dsimp only at hSw); go_simp; try with_reducible rfl)
      refine wpAnyN_take (i := 19) (v := ?rv19) rfl (by kernel_rfl) (by kernel_rfl) (by kernel_rfl) (by kernel_rfl) (by kernel_rfl) (fun _ _ _ h => h) (Or.inl ⟨by rfl, ?rh19⟩) hHeld ?_
      case rh19 => (intro w hSw; (try dsimp only at hSw); go_simp; try with_reducible rfl)
      refine wpAnyN_take (i := 20) (v := ?rv20) rfl (by kernel_rfl) (by kernel_rfl) (by kernel_rfl) (by kernel_rfl) (by kernel_rfl) (fun _ _ _ h => h) (Or.inl ⟨by rfl, ?rh20⟩) hHeld ?_
      case rh20 => (intro w hSw; (try dsimp only at hSw); go_simp; try with_reducible rfl)
      refine wpAnyN_take (i := 22) (v := ?rv21) rfl (by kernel_rfl) (by kernel_rfl) (by kernel_rfl) (by kernel_rfl) (by kernel_rfl) (fun _ _ _ h => h) (Or.inl ⟨by rfl, ?rh21⟩) hHeld ?_
      case rh21 => (intro w hSw; (try dsimp only at hSw); go_simp; try with_reducible rfl)
      refine wpAnyN_ready (rs := [9]) (by kernel_rfl) (by simp) ?_
      refine AllN.cons rfl (fun K rK22 => ?_) ?_
      · go_simp
        refine (hLA _ hbw.drew).mono ?_
        rintro e wA ⟨rfl, hbA⟩
        dsimp only
        refine rK22.go _ _ (⟨hbA.cell d0, hbA.cell d1⟩) (fun rS22 => ?_)
        clear rK22 K
        refine wpAnyN_ready (rs := [21]) (by kernel_rfl) (by simp) ?_
        refine AllN.cons rfl (fun K rK23 => ?_) ?_
        · go_simp
          refine (hFI _ (hbw.drew.trans hbA)).mono ?_
          rintro e wB ⟨rfl, hbB⟩
          dsimp only
          refine rK23.go _ _ (⟨hbB.cell (hbA.cell d0), hbB.cell (hbA.cell d1)⟩) (fun rS23 => ?_)
          clear rK23 K
          refine wpAnyN_ready (rs := [23]) (by kernel_rfl) (by simp) ?_
          refine AllN.cons rfl (fun K rK24 => ?_) ?_
          · go_simp
            refine (hFL _).mono ?_
            rintro e wC ⟨rfl, hbC⟩
            dsimp only
            refine rK24.go _ _ (⟨hbC.cell (hbB.cell (hbA.cell d0)), hbC.cell (hbB.cell (hbA.cell d1))⟩) (fun rS24 => ?_)
            clear rK24 K
            refine wpAnyN_ready (rs := [24]) (by kernel_rfl) (by simp) ?_
            refine AllN.cons rfl (fun K rK25 => ?_) ?_
            · go_simp
              refine rK25.go _ _ (⟨hbC.cell (hbB.cell (hbA.cell d0)), hbC.cell (hbB.cell (hbA.cell d1))⟩) (fun rS25 => ?_)
              clear rK25 K
              refine wpAnyN_ready (rs := [25, 26]) (by kernel_rfl) (by simp) ?_
              refine AllN.cons rfl (fun K rK26 => ?_) ?_
              · go_simp
                refine rK26.go _ _ (⟨hbC.cell (hbB.cell (hbA.cell d0)), hbC.cell (hbB.cell (hbA.cell d1))⟩) (fun rS26 => ?_)
                clear rK26 K
                refine wpAnyN_pass (i := 27) (v := ?rv27) rfl (by kernel_rfl) (by kernel_rfl) (by kernel_rfl) (by kernel_rfl) (fun _ _ _ h => h) (Or.inl ⟨by rfl, ?rh27⟩) ?_
                case rh27 => (intro w; go_simp; try with_reducible rfl)
                refine wpAnyN_ready (rs := [26]) (by kernel_rfl) (by simp) ?_
                refine AllN.cons rfl (fun K rK28 => ?_) ?_
                · go_simp
                  refine rK28.go _ _ (⟨hbC.cell (hbB.cell (hbA.cell d0)), hbC.cell (hbB.cell (hbA.cell d1))⟩) (fun rS28 => ?_)
                  clear rK28 K
                  refine wpAnyN_pass (i := 28) (v := ?rv29) rfl (by kernel_rfl) (by kernel_rfl) (by kernel_rfl) (by kernel_rfl) (fun _ _ _ h => h) (Or.inl ⟨by rfl, ?rh29⟩) ?_
                  case rh29 => (intro w; go_simp; try with_reducible rfl)
                  refine wpAnyN_done (by kernel_rfl) ?_ _
                  have hbF : Bl w wC := ((hbw.drew.trans hbA).trans hbB).trans hbC
                  have f1 := heap_lt h1
                  have g1 := (hbF.block f1).trans h1
                  have e2c : wC.cell? ⟨pb, 2, none⟩ = some (.slice lo a.l.length lc) := hbF.cell c2
                  have h2' : wC.ownsRow w0.heap.size 65 1 (.slice lo a.l.length lc) a.l.length xs := h2.kept (grownBy_of_bl hbF none) (by cases (Value.slice lo a.l.length lc).ownBlock <;> simp)
                  have hsz := (hZ.more hbF).bl.size
                  go_wp2_with (at_builtin; go_loud (refine wpList_append_lies _ rfl _ _ 44 rfl w0.heap.size 65 ip _ 1 16 Tryz.underlying44 hip hpz hps hpb rfl (by omega) (.slice lo a.l.length lc) a.l.length xs rfl (h2'.alloc _) ⟨wC.heap.size, 0, none⟩ 1 1 [.iface 69 (.agg #[.int .u8 (c.toNat : Int), .int .i64 (n : Int), .bool op, .bool cl])] rfl rfl (World.news_of_block (cs := #[.iface 69 (.agg #[.int .u8 (c.toNat : Int), .int .i64 (n : Int), .bool op, .bool cl])]) (t := 65) (fr := (0, 0)) (heap_alloc_new wC _)) (by simp [Value.oneCell']) (by omega) (by unfold maxLen; omega) (by omega) (by simp; omega) (wC.heap.size + 1) (by simp) ?_; intro og ocap w7 hown7 hgrow7 hat7 hlt7; have hB7 := app_block (hbF.alloc _) h1 h2 hgrow7; have hE := hZ.app (p := .run ⟨c, n, op, cl⟩) (hbF.alloc _) h1 h2 h3 hgrow7 hown7 rfl (fun b hb => by unfold opV at hb; cases hb); have e7 : w7.cell? ⟨pb, 1, none⟩ = some (.int .i64 (q : Int)) := (by rw [Lib.cell_of_heap hB7, ← Q.out]; rfl); have z7 : w7.frozen? ⟨pb, 1, none⟩ = false := Lib.frozen_of_heap hB7 1; obtain ⟨hZ7, e70, e7z⟩ := hE))
                  go_end0
                  have hF := hZ7.at (a.at_ + n)
                  rw [Int.natCast_add, Q.out] at hF
                  rw [Q.out]
                  exact ⟨rfl, hF⟩
                exact AllN.nil
              refine AllN.cons rfl (fun K rK30 => ?_) ?_
              · go_simp
                refine rK30.go _ _ (⟨hbC.cell (hbB.cell (hbA.cell d0)), hbC.cell (hbB.cell (hbA.cell d1))⟩) (fun rS30 => ?_)
                clear rK30 K
                refine wpAnyN_ready (rs := [25]) (by kernel_rfl) (by simp) ?_
                refine AllN.cons rfl (fun K rK31 => ?_) ?_
                · go_simp
                  refine rK31.go _ _ (⟨hbC.cell (hbB.cell (hbA.cell d0)), hbC.cell (hbB.cell (hbA.cell d1))⟩) (fun rS31 => ?_)
                  clear rK31 K
                  refine wpAnyN_pass (i := 27) (v := ?rv32) rfl (by kernel_rfl) (by kernel_rfl) (by kernel_rfl) (by kernel_rfl) (fun _ _ _ h => h) (Or.inl ⟨by rfl, ?rh32⟩) ?_
                  case rh32 => (intro w; go_simp; try with_reducible rfl)
                  refine wpAnyN_pass (i := 28) (v := ?rv33) rfl (by kernel_rfl) (by kernel_rfl) (by kernel_rfl) (by kernel_rfl) (fun _ _ _ h => h) (Or.inl ⟨by rfl, ?rh33⟩) ?_
                  case rh33 => (intro w; go_simp; try with_reducible rfl)
                  refine wpAnyN_done (by kernel_rfl) ?_ _
                  have hbF : Bl w wC := ((hbw.drew.trans hbA).trans hbB).trans hbC
                  have f1 := heap_lt h1
                  have g1 := (hbF.block f1).trans h1
                  have e2c : wC.cell? ⟨pb, 2, none⟩ = some (.slice lo a.l.length lc) := hbF.cell c2
                  have h2' : wC.ownsRow w0.heap.size 65 1 (.slice lo a.l.length lc) a.l.length xs := h2.kept (grownBy_of_bl hbF none) (by cases (Value.slice lo a.l.length lc).ownBlock <;> simp)
                  have hsz := (hZ.more hbF).bl.size
                  go_wp2_with (at_builtin; go_loud (refine wpList_append_lies _ rfl _ _ 44 rfl w0.heap.size 65 ip _ 1 16 Tryz.underlying44 hip hpz hps hpb rfl (by omega) (.slice lo a.l.length lc) a.l.length xs rfl (h2'.alloc _) ⟨wC.heap.size, 0, none⟩ 1 1 [.iface 69 (.agg #[.int .u8 (c.toNat : Int), .int .i64 (n : Int), .bool op, .bool cl])] rfl rfl (World.news_of_block (cs := #[.iface 69 (.agg #[.int .u8 (c.toNat : Int), .int .i64 (n : Int), .bool op, .bool cl])]) (t := 65) (fr := (0, 0)) (heap_alloc_new wC _)) (by simp [Value.oneCell']) (by omega) (by unfold maxLen; omega) (by omega) (by simp; omega) (wC.heap.size + 1) (by simp) ?_; intro og ocap w7 hown7 hgrow7 hat7 hlt7; have hB7 := app_block (hbF.alloc _) h1 h2 hgrow7; have hE := hZ.app (p := .run ⟨c, n, op, cl⟩) (hbF.alloc _) h1 h2 h3 hgrow7 hown7 rfl (fun b hb => by unfold opV at hb; cases hb); have e7 : w7.cell? ⟨pb, 1, none⟩ = some (.int .i64 (q : Int)) := (by rw [Lib.cell_of_heap hB7, ← Q.out]; rfl); have z7 : w7.frozen? ⟨pb, 1, none⟩ = false := Lib.frozen_of_heap hB7 1; obtain ⟨hZ7, e70, e7z⟩ := hE))
                  go_end0
                  have hF := hZ7.at (a.at_ + n)
                  rw [Int.natCast_add, Q.out] at hF
                  rw [Q.out]
                  exact ⟨rfl, hF⟩
                exact AllN.nil
              exact AllN.nil
            exact AllN.nil
          exact AllN.nil
        exact AllN.nil
      exact AllN.nil
end Go.Proofs.YtjocbifjmchbcaaGreatDoor
/- The parser's bracket. -/
namespace Go.Proofs.YtjocbifjmchbcaaGreatDoor
open Go.RowKit

theorem opS_len (img : Bool) : (mkB (opS img)).size = (opS img).length := mkB_size _
theorem PcR.op_lt {w : World} {base : Nat} {l : List Pc} {xs : List Value} (h : PcR w base l xs) {i b : Nat} (hi : xs[i]? = some (opV b)) : b < w.heap.size := by
  have hlt := (List.getElem?_eq_some_iff.1 hi).1
  rw [h.len] at hlt
  have hv := h.get i l[i] (opV b) (List.getElem?_eq_getElem hlt) hi
  cases hp : l[i] with
  | node k s t f =>
    rw [hp] at hv
    obtain ⟨v, g1, _⟩ := hv
    unfold opV at g1; cases g1
  | run r =>
    rw [hp] at hv
    unfold PcV opV at hv; cases hv
  | op img live n =>
    rw [hp] at hv
    obtain ⟨ob, g1, g2⟩ := hv
    rw [opV_inj g1]; exact heap_lt g2
set_option maxRecDepth 100000 in
set_option maxHeartbeats 4000000 in
theorem bracket_any (w0 w : World) (pb : Nat) (s : List UInt8) (dv nv : Value) (m : Int) (a : Pa) (img : Bool) (hZ : Pz w0 w pb s dv nv m a) (ha : a.at_ < s.length) (hs : s.length ≤ 1000000) (hl : a.l.length ≤ 1000000) :
    Calls Tryz.prog 36 #[.pointer (some ⟨pb, 0, none⟩), .string (mkB (opS img))] w fun e w' => e = .returned (.tuple #[]) ∧ Pz w0 w' pb s dv nv m (bracketL img a) := by
  have hzn : ∀ n : Nat, Pz w0 (w.setCell ⟨pb, 1, none⟩ (.int .i64 (n : Int))) pb s dv nv m { a with at_ := n } := fun n => hZ.at n
  have hN : (opS img).length ≤ 2 := by cases img <;> decide
  have hSz := opS_len img
  obtain ⟨n, hn⟩ : ∃ n, a.at_ + (opS img).length = n := ⟨_, rfl⟩
  have hDef : bracketL img a = ⟨n, a.l ++ [.op img true n]⟩ := by rw [← hn]; rfl
  rw [hDef]
  have hzn := hzn n
  obtain ⟨lo0, lc0, xs0, h1, _, _⟩ := hZ.ex
  have hb := heap_lt h1
  have c1 : w.cell? ⟨pb, 1, none⟩ = some (.int .i64 (a.at_ : Int)) := by rw [Lib.cell_of_heap h1]; rfl
  have z1 : w.frozen? ⟨pb, 1, none⟩ = false := Lib.frozen_of_heap h1 1
  obtain ⟨ip, hip, hpz, hps, hpb⟩ := info_parts infoPiece
  obtain ⟨q, hq⟩ : ∃ q, a.at_ = q := ⟨_, rfl⟩
  obtain ⟨S, hS⟩ : ∃ S, mkB (opS img) = S := ⟨_, rfl⟩
  rw [hS] at hSz ⊢
  rw [hq] at c1 hn ha
  have hqn : (n : Int) = (q : Int) + (S.size : Int) := by omega
  rw [hqn] at hzn
  have hS2 : S.size ≤ 2 := by omega
  have HQ := Lib.hid hqn
  have HS := Lib.hid hS
  clear hDef hq hSz hn hqn h1 hS
  go_enter Tryz.func36, Tryz.ntmps36
  go_upto_region 1 with fail
  obtain ⟨w1, hw1⟩ : ∃ w1, w.setCell ⟨pb, 1, none⟩ (.int .i64 ((q : Int) + (S.size : Int))) = w1 := ⟨_, rfl⟩
  rw [hw1] at hzn ⊢
  clear hw1
  obtain ⟨lo, lc, xs, g1, g2, g3⟩ := hzn.ex
  dsimp only at g1 g2 g3
  have hsz := hzn.bl.size
  have hpl := heap_lt g1
  have d1 : w1.cell? ⟨pb, 1, none⟩ = some (.int .i64 (n : Int)) := by rw [Lib.cell_of_heap g1]; rfl
  have d2 : w1.cell? ⟨pb, 2, none⟩ = some (.slice lo a.l.length lc) := by rw [Lib.cell_of_heap g1]; rfl
  have hHeld : (fun w' : World => w'.cell? ⟨pb, 1, none⟩ = some (.int .i64 (n : Int)) ∧ w'.cell? ⟨pb, 2, none⟩ = some (.slice lo a.l.length lc)) w1.drew := ⟨d1, d2⟩
  have hg2' : ∀ W, Bl w1 W → W.ownsRow w0.heap.size 65 1 (.slice lo a.l.length lc) a.l.length xs := fun W hW => g2.kept (grownBy_of_bl hW none) (by cases (Value.slice lo a.l.length lc).ownBlock <;> simp)
  have hbx : ∀ o : Obj, Bl w1 ((w1.alloc (.cells #[.string S, .bool true, .int .i64 (n : Int)] 82)).alloc o) := fun o => ((Bl.refl w1).alloc _).alloc o
  have hopv : ∀ o : Obj, PcV (((w1.alloc (.cells #[.string S, .bool true, .int .i64 (n : Int)] 82)).alloc o).drew) (.op img true n) (opV w1.heap.size) := fun o => by
    refine ⟨w1.heap.size, rfl, ?_⟩
    rw [HS.out, (((Bl.refl (w1.alloc (.cells #[.string S, .bool true, .int .i64 (n : Int)] 82))).alloc o).drew).block (by simp)]
    exact heap_alloc_new w1 _
  have hopn : ∀ b, opV w1.heap.size = opV b → w0.heap.size ≤ b ∧ ∀ i : Nat, xs[i]? ≠ some (opV b) := fun b hb => by
    rw [← opV_inj hb]
    exact ⟨hsz, fun i hi => by have := g3.op_lt hi; omega⟩
  refine wp_region_n (fun w' : World => w'.cell? ⟨pb, 1, none⟩ = some (.int .i64 (n : Int)) ∧ w'.cell? ⟨pb, 2, none⟩ = some (.slice lo a.l.length lc)) [0, 1, 2, 3, 4, 5, 6, 7, 8, 9, 10] (by kernel_rfl) ?_
  refine wpAnyN_take (i := 0) (v := ?rv1) rfl (by kernel_rfl) (by kernel_rfl) (by kernel_rfl) (by kernel_rfl) (by kernel_rfl) (fun _ _ _ h => h) (Or.inl ⟨by rfl, ?rh1⟩) hHeld ?_
  case rh1 => (intro w hSw; (try dsimp only at hSw); go_simp; try with_reducible rfl)
  refine wpAnyN_take (i := 1) (v := ?rv2) rfl (by kernel_rfl) (by kernel_rfl) (by kernel_rfl) (by kernel_rfl) (by kernel_rfl) (fun _ _ _ h => h) (Or.inl ⟨by rfl, ?rh2⟩) hHeld ?_
  case rh2 => (intro w hSw; (try dsimp only at hSw); go_simp; try with_reducible rfl)
  refine wpAnyN_take (i := 2) (v := ?rv3) rfl (by kernel_rfl) (by kernel_rfl) (by kernel_rfl) (by kernel_rfl) (by kernel_rfl) (fun _ _ _ h => h) (Or.inl ⟨by rfl, ?rh3⟩) hHeld ?_
  case rh3 => (intro w hSw; (try dsimp only at hSw); go_simp; try with_reducible rfl)
  refine wpAnyN_take (i := 3) (v := ?rv4) rfl (by kernel_rfl) (by kernel_rfl) (by kernel_rfl) (by kernel_rfl) (by kernel_rfl) (fun _ _ _ h => h) (Or.inl ⟨by rfl, ?rh4⟩) hHeld ?_
  case rh4 => (intro w hSw; (try dsimp only at hSw); go_simp; try with_reducible rfl)
  refine wpAnyN_take (i := 4) (v := ?rv5) rfl (by kernel_rfl) (by kernel_rfl) (by kernel_rfl) (by kernel_rfl) (by kernel_rfl) (fun _ _ _ h => h) (Or.inl ⟨by rfl, ?rh5⟩) hHeld ?_
  case rh5 => (intro w hSw; (try dsimp only at hSw); go_simp; try with_reducible rfl)
  refine wpAnyN_take (i := 5) (v := ?rv6) rfl (by kernel_rfl) (by kernel_rfl) (by kernel_rfl) (by kernel_rfl) (by kernel_rfl) (fun _ _ _ h => h) (Or.inl ⟨by rfl, ?rh6⟩) hHeld ?_
  case rh6 => (intro w hSw; (try dsimp only at hSw); go_simp; try with_reducible rfl)
  refine wpAnyN_take (i := 6) (v := ?rv7) rfl (by kernel_rfl) (by kernel_rfl) (by kernel_rfl) (by kernel_rfl) (by kernel_rfl) (fun _ _ _ h => h) (Or.inl ⟨by rfl, ?rh7⟩) hHeld ?_
  case rh7 => (intro w hSw; (try dsimp only at hSw); go_simp; try with_reducible rfl)
  refine wpAnyN_take (i := 7) (v := ?rv8) rfl (by kernel_rfl) (by kernel_rfl) (by kernel_rfl) (by kernel_rfl) (by kernel_rfl) (fun _ _ _ h => h) (Or.inl ⟨by rfl, ?rh8⟩) hHeld ?_
  case rh8 => (intro w hSw; (try dsimp only at hSw); go_simp; try with_reducible rfl)
  refine wpAnyN_take (i := 8) (v := ?rv9) rfl (by kernel_rfl) (by kernel_rfl) (by kernel_rfl) (by kernel_rfl) (by kernel_rfl) (fun _ _ _ h => h) (Or.inl ⟨by rfl, ?rh9⟩) hHeld ?_
  case rh9 => (intro w hSw; (try dsimp only at hSw); go_simp; try with_reducible rfl)
  refine wpAnyN_take (i := 9) (v := ?rv10) rfl (by kernel_rfl) (by kernel_rfl) (by kernel_rfl) (by kernel_rfl) (by kernel_rfl) (fun _ _ _ h => h) (Or.inl ⟨by rfl, ?rh10⟩) hHeld ?_
  case rh10 => (intro w hSw; (try dsimp only at hSw); go_simp; try with_reducible rfl)
  refine wpAnyN_take (i := 10) (v := ?rv11) rfl (by kernel_rfl) (by kernel_rfl) (by kernel_rfl) (by kernel_rfl) (by kernel_rfl) (fun _ _ _ h => h) (Or.inl ⟨by rfl, ?rh11⟩) hHeld ?_
  case rh11 => (intro w hSw; (try dsimp only at hSw); go_simp; try with_reducible rfl)
  refine wpAnyN_ready (rs := [11]) (by kernel_rfl) (by simp) ?_
  refine AllN.cons rfl (fun K rK12 => ?_) ?_
  · go_simp
    refine rK12.go _ _ (⟨Lib.cell?_alloc_some _ d1, Lib.cell?_alloc_some _ d2⟩) (fun rS12 => ?_)
    clear rK12 K
    refine wpAnyN_ready (rs := [12]) (by kernel_rfl) (by simp) ?_
    refine AllN.cons rfl (fun K rK13 => ?_) ?_
    · go_simp
      refine rK13.go _ _ (⟨Lib.cell?_alloc_some _ d1, Lib.cell?_alloc_some _ d2⟩) (fun rS13 => ?_)
      clear rK13 K
      refine wpAnyN_ready (rs := [13]) (by kernel_rfl) (by simp) ?_
      refine AllN.cons rfl (fun K rK14 => ?_) ?_
      · go_simp
        refine rK14.go _ _ (⟨Lib.cell?_alloc_some _ (Lib.cell?_alloc_some _ d1), Lib.cell?_alloc_some _ (Lib.cell?_alloc_some _ d2)⟩) (fun rS14 => ?_)
        clear rK14 K
        refine wpAnyN_ready (rs := [14]) (by kernel_rfl) (by simp) ?_
        refine AllN.cons rfl (fun K rK15 => ?_) ?_
        · refine step_append_lies _ (by rfl) _ _ _ (by rfl) w0.heap.size 65 ip _ 1 16 Tryz.underlying44 hip hpz hps hpb rfl (by omega) (.slice lo a.l.length lc) a.l.length xs (by rfl) (hg2' _ (hbx _)).drew
            ⟨w1.heap.size + 1, 0, none⟩ 1 1 [opV w1.heap.size] (by rfl) (by rfl) (World.news_of_block (cs := #[opV w1.heap.size]) (t := 65) (fr := (0, 0)) (new2 w1 _ _)) (by simp [Value.oneCell', opV])
            (by omega) (by unfold maxLen; omega) (by omega) (by simp; omega) (w1.heap.size + 1 + 1) (by simp) ?_
          intro gg cap1 w2 hown1 hgrow hat hlt
          obtain ⟨hZ2, e2, ez⟩ := hzn.app (p := .op img true n) ((hbx _).drew) g1 g2 g3 hgrow hown1 (hopv _) hopn
          have hB7 := app_block ((hbx _).drew) g1 g2 hgrow
          have e1 : w2.cell? ⟨pb, 1, none⟩ = some (.int .i64 (n : Int)) := by rw [Lib.cell_of_heap hB7]; rfl
          refine rK15.go _ _ (⟨e1, e2⟩) (fun rS15 => ?_)
          clear rK15 K
          refine wpAnyN_pass (i := 15) (v := ?rv16) rfl (by kernel_rfl) (by kernel_rfl) (by kernel_rfl) (by kernel_rfl) (fun _ _ _ h => h) (Or.inl ⟨by rfl, ?rh16⟩) ?_
          case rh16 => (intro w; go_simp; try with_reducible rfl)
          refine wpAnyN_pass (i := 16) (v := ?rv17) rfl (by kernel_rfl) (by kernel_rfl) (by kernel_rfl) (by kernel_rfl) (fun _ _ _ h => h) (Or.inl ⟨by rfl, ?rh17⟩) ?_
          case rh17 => (intro w; go_simp; try with_reducible rfl)
          refine wpAnyN_ready (rs := [17]) (by kernel_rfl) (by simp) ?_
          refine AllN.cons rfl (fun K rK18 => ?_) ?_
          · go_simp
            refine rK18.out _ _ (not_early (by kernel_rfl)) ?_
            clear rK18 K
            refine wpAnyN_done (by kernel_rfl) ?_ _
            go_wp2
            go_end0
            exact ⟨rfl, hZ2⟩
          exact AllN.nil
        exact AllN.nil
      exact AllN.nil
    exact AllN.nil
  exact AllN.nil
end Go.Proofs.YtjocbifjmchbcaaGreatDoor
/- The parser's kill. -/
namespace Go.Proofs.YtjocbifjmchbcaaGreatDoor
open Go.RowKit

/-- All but openers lies as it lay. -/
structure Ko (w w' : World) : Prop where
  size : w.heap.size ≤ w'.heap.size
  same : ∀ (i : Nat) (o : Obj), w.heap[i]? = some o → (∀ cs fz, o ≠ .cells cs 82 fz) → w'.heap[i]? = some o
theorem Ko.refl (w : World) : Ko w w := ⟨Nat.le_refl _, fun _ _ h _ => h⟩
theorem Ko.trans {a b c : World} (h : Ko a b) (k : Ko b c) : Ko a c := ⟨Nat.le_trans h.size k.size, fun i o h0 h1 => k.same i o (h.same i o h0 h1) h1⟩
theorem Ko.of_bl {w w' : World} (h : Bl w w') : Ko w w' := ⟨h.size, fun i o h0 _ => by rw [h.block (heap_lt h0)]; exact h0⟩
theorem Ko.set {w : World} {ob o : Nat} {v : Value} {cs : Array Value} {fz : Nat × Nat} (h : w.heap[ob]? = some (.cells cs 82 fz)) : Ko w (w.setCell ⟨ob, o, none⟩ v) :=
  ⟨by simp, fun i x hx hn => by
    rw [Below.heap_setCell w ⟨ob, o, none⟩ v i (fun e => by dsimp only at e; subst e; rw [h] at hx; cases hx; exact hn _ _ rfl)]
    exact hx⟩
theorem Ko.fr {w w' : World} (h : Ko w w') : Fr [] w w' := ⟨h.size, fun b cs fz hb _ => h.same b _ hb (fun cs' fz' e => by cases e)⟩
def kill1 (p : Pc) : Pc := match p with
  | .op false _ n => .op false false n
  | p => p
theorem killL_eq (l : List Pc) : killL l = l.map kill1 := rfl
def killTo (j : Nat) (l : List Pc) : List Pc := (l.take j).map kill1 ++ l.drop j
theorem killTo_len (j : Nat) (l : List Pc) : (killTo j l).length = l.length := by unfold killTo; simp; omega
theorem killTo_get {j : Nat} {l : List Pc} {p : Pc} (h : l[j]? = some p) : (killTo j l)[j]? = some p := by
  have hlt := (List.getElem?_eq_some_iff.1 h).1
  unfold killTo
  rw [List.getElem?_append_right (by simp; omega), List.length_map, List.length_take, Nat.min_eq_left (by omega), Nat.sub_self, List.getElem?_drop]
  exact h
theorem killTo_succ {j : Nat} {l : List Pc} {p : Pc} (h : l[j]? = some p) : killTo (j + 1) l = (killTo j l).set j (kill1 p) := by
  have hlt := (List.getElem?_eq_some_iff.1 h).1
  have hd : l.drop j = p :: l.drop (j + 1) := by
    rw [List.drop_eq_getElem_cons hlt]
    congr 1
    have := List.getElem?_eq_getElem hlt
    rw [h] at this; exact (Option.some.inj this).symm
  unfold killTo
  rw [hd, List.set_append_right _ _ (by simp; omega), List.length_map, List.length_take, Nat.min_eq_left (by omega), Nat.sub_self, List.take_add_one, h]
  simp
theorem killTo_same {j : Nat} {l : List Pc} {p : Pc} (h : l[j]? = some p) (hk : kill1 p = p) : killTo (j + 1) l = killTo j l := by
  rw [killTo_succ h, hk]
  have hlt := (List.getElem?_eq_some_iff.1 h).1
  apply List.ext_getElem?
  intro i
  rw [List.getElem?_set]
  split
  · rename_i e
    subst e
    rw [if_pos (by rw [killTo_len]; exact hlt), killTo_get h]
  · rfl
theorem killTo_zero (l : List Pc) : killTo 0 l = l := by simp [killTo]
theorem killTo_all (l : List Pc) : killTo l.length l = killL l := by rw [killL_eq]; unfold killTo; simp
set_option maxRecDepth 100000 in
set_option maxHeartbeats 4000000 in
theorem kill_any (w0 w : World) (pb : Nat) (s : List UInt8) (dv nv : Value) (m : Int) (a : Pa) (hZ : Pz w0 w pb s dv nv m a) (hl : a.l.length ≤ 1000000) :
    Calls Tryz.prog 70 #[.pointer (some ⟨pb, 0, none⟩)] w fun e w' => e = .returned (.tuple #[]) ∧ Pz w0 w' pb s dv nv m { a with l := killL a.l } ∧ Ko w w' := by
  obtain ⟨lo, lc, xs, h1, h2, h3⟩ := hZ.ex
  have hge := hZ.ge
  have hbl := hZ.bl
  have A7 := ta_node_op; have A8 := ta_run_op; have A9 := ta_op_op
  obtain ⟨n, hn⟩ : ∃ n, a.l.length = n := ⟨_, rfl⟩
  have hn0 := hn
  rw [hn] at h1 h2 hl
  have hb := heap_lt h1
  have c2 : w.cell? ⟨pb, 2, none⟩ = some (.slice lo n lc) := by rw [Lib.cell_of_heap h1]; rfl
  have hfin : ∀ W, W.heap[pb]? = some (.cells #[.string (mkB s), .int .i64 (a.at_ : Int), .slice lo n lc, dv, nv, .int .i64 m] 46 (0, 0)) → W.ownsRow w0.heap.size 65 1 (.slice lo n lc) n xs → PcR W w0.heap.size (killTo n a.l) xs → Bl w0 W → Pz w0 W pb s dv nv m { a with l := killL a.l } := by
    intro W k1 k2 k3 k4
    rw [← hn, killTo_all] at k3
    have hkl : (killL a.l).length = n := by rw [killL_eq, List.length_map, hn]
    exact ⟨⟨lo, lc, xs, by dsimp only; rw [hkl]; exact k1, by dsimp only; rw [hkl]; exact k2, k3⟩, hge, k4⟩
  have HN := Lib.hid hn0
  clear hn hn0
  go_enter Tryz.func70, Tryz.ntmps70
  go_wp2_with fail
  go_loopw [11] (fun v11 wr => ∃ j : Nat, j ≤ n ∧ v11 = .int .i64 (j : Int) ∧ wr.heap[pb]? = some (.cells #[.string (mkB s), .int .i64 (a.at_ : Int), .slice lo n lc, dv, nv, .int .i64 m] 46 (0, 0)) ∧ wr.ownsRow w0.heap.size 65 1 (.slice lo n lc) n xs ∧ PcR wr w0.heap.size (killTo j a.l) xs ∧ Bl w0 wr ∧ Ko w wr) (fun v11 _ => n - (intOf v11).toNat)
  case atStart => exact ⟨0, Nat.zero_le _, rfl, h1, h2, by rw [killTo_zero]; exact h3, hbl, Ko.refl _⟩
  case round =>
    obtain ⟨j, hj, rfl, k1, k2, k3, k4, k5⟩ := hrel
    by_cases hjn : j < n
    · obtain ⟨p, hp⟩ : ∃ p, a.l[j]? = some p := ⟨_, List.getElem?_eq_getElem (by rw [HN.out]; exact hjn)⟩
      obtain ⟨z, hz⟩ : ∃ z, xs[j]? = some z := ⟨_, List.getElem?_eq_getElem (by rw [k3.len, killTo_len, HN.out]; exact hjn)⟩
      have hpv := k3.get j p z (killTo_get hp) hz
      obtain ⟨gb, gcap, hv, _, _⟩ := k2.form (by omega)
      cases hv
      have cz := k2.cells (g := gb) rfl j z hz
      rw [addr0] at cz
      have i0 : (0 : Int) ≤ (j : Int) := Int.natCast_nonneg _
      have i1 : (j : Int) < (n : Int) := by omega
      cases p with
      | node k s1 t1 f =>
        obtain ⟨v, rfl, _⟩ := hpv
        have hk := killTo_same hp rfl
        rw [← hk] at k3
        go_wp2_with fail
        go_roundw
        case rel => exact ⟨j + 1, by omega, by go_num, k1, k2, k3, k4, k5⟩
        case measure => simp [intOf]; omega
      | run r =>
        obtain rfl := hpv
        have hk := killTo_same hp rfl
        rw [← hk] at k3
        go_wp2_with fail
        go_roundw
        case rel => exact ⟨j + 1, by omega, by go_num, k1, k2, k3, k4, k5⟩
        case measure => simp [intOf]; omega
      | op img live at_ =>
        obtain ⟨ob, rfl, hob⟩ := hpv
        cases img with
        | true =>
          have o0 : wr.cell? ⟨ob, 0, none⟩ = some (.string ⟨#[33, 91]⟩) := by rw [Lib.cell_of_heap hob]; rfl
          have hk := killTo_same hp rfl
          rw [← hk] at k3
          go_wp2_with fail
          go_roundw
          case rel => exact ⟨j + 1, by omega, by go_num, k1, k2, k3, k4, k5⟩
          case measure => simp [intOf]; omega
        | false =>
          have o0 : wr.cell? ⟨ob, 0, none⟩ = some (.string ⟨#[91]⟩) := by rw [Lib.cell_of_heap hob]; rfl
          have o1 : wr.cell? ⟨ob, 1, none⟩ = some (.bool live) := by rw [Lib.cell_of_heap hob]; rfl
          have oz : wr.frozen? ⟨ob, 1, none⟩ = false := Lib.frozen_of_heap hob 1
          have hD := k3.dead (killTo_get hp) hz
          have hk := killTo_succ hp
          rw [show (killTo j a.l).set j (.op false false at_) = killTo (j + 1) a.l from hk.symm] at hD
          have hg := grownBy_setCell wr ⟨ob, 1, none⟩ (.bool false)
          have k1' : (wr.setCell ⟨ob, 1, none⟩ (.bool false)).heap[pb]? = some (.cells #[.string (mkB s), .int .i64 (a.at_ : Int), .slice (some ⟨gb, 0, none⟩) n lc, dv, nv, .int .i64 m] 46 (0, 0)) := by
            rw [hg.block pb (heap_lt k1) (fun e => by have := Option.some.inj e; dsimp only at this; rw [this, hob] at k1; cases k1)]; exact k1
          have k2' := k2.kept hg (row_far k2 hob (by decide))
          have k4' := k4.grown hg (fun b hb => by cases hb; exact k3.ge j ob hz)
          have k5' : Ko w (wr.setCell ⟨ob, 1, none⟩ (.bool false)) := k5.trans (Ko.set hob)
          go_wp2_with fail
          go_roundw
          case rel => exact ⟨j + 1, by omega, by go_num, k1', k2', hD, k4', k5'⟩
          case measure => simp [intOf]; omega
    · obtain rfl : j = n := by omega
      have hX := hfin wr k1 k2 k3 k4
      go_wp2_with fail
      go_end0
      exact ⟨rfl, hX, k5⟩
end Go.Proofs.YtjocbifjmchbcaaGreatDoor
/- The parser's opened. -/
namespace Go.Proofs.YtjocbifjmchbcaaGreatDoor
open Go.RowKit Go.Shelf

/-- A piece's value, of one of the three types. -/
def PvOk (v : Value) : Prop := (∃ a, v = .iface 77 a) ∨ (∃ a, v = .iface 69 a) ∨ (∃ b, v = opV b)
abbrev Pv := { v : Value // PvOk v }
instance : Inhabited Pv := ⟨⟨opV 0, .inr (.inr ⟨0, rfl⟩)⟩⟩
def isOpV (x : Pv) : Prop := ∃ b, x.1 = opV b
theorem PcV.ok {w : World} : ∀ {p : Pc} {x : Value}, PcV w p x → PvOk x
  | .node _ _ _ _, _, ⟨v, h, _⟩ => .inl ⟨_, h⟩
  | .run _, _, h => .inr (.inl ⟨_, h⟩)
  | .op _ _ _, _, ⟨ob, h, _⟩ => .inr (.inr ⟨ob, h⟩)
theorem opened_none : ∀ l : List Pc, (∀ p ∈ l, ∀ img live n, p ≠ .op img live n) → openedL l = none
  | [], _ => rfl
  | p :: t, h => by
    unfold openedL
    rw [opened_none t (fun q hq => h q (List.mem_cons_of_mem _ hq))]
    cases p with
    | op img live n => exact absurd rfl (h _ List.mem_cons_self img live n)
    | node => rfl
    | run => rfl
theorem opened_at (img live : Bool) (n : Nat) : ∀ (l : List Pc) (k : Nat), l[k]? = some (.op img live n) → (∀ i p, k < i → l[i]? = some p → ∀ a b c, p ≠ .op a b c) → openedL l = some (k, img, live, n)
  | [], k, h, _ => by cases h
  | p :: t, 0, h, hn => by
    cases h
    unfold openedL
    rw [opened_none t (fun q hq a b c => by
      obtain ⟨i, hi⟩ := List.getElem?_of_mem hq
      exact hn (i + 1) q (by omega) (by simpa using hi) a b c)]
  | p :: t, k + 1, h, hn => by
    unfold openedL
    rw [opened_at img live n t k (by simpa using h) (fun i q hi hq => hn (i + 1) q (by omega) (by simpa using hq))]
/-- The values of a row, as pieces' values. -/
def asPv (xs : List Value) (h : ∀ x ∈ xs, PvOk x) : List Pv := xs.attach.map fun x => ⟨x.1, h x.1 x.2⟩
theorem asPv_len (xs : List Value) (h : ∀ x ∈ xs, PvOk x) : (asPv xs h).length = xs.length := by simp [asPv]
theorem asPv_get (xs : List Value) (h : ∀ x ∈ xs, PvOk x) (j : Nat) (u : Pv) (hu : (asPv xs h)[j]? = some u) : xs[j]? = some u.1 := by
  have hlt := (List.getElem?_eq_some_iff.1 hu).1
  rw [asPv_len] at hlt
  have : (asPv xs h)[j]? = some ⟨xs[j], h _ (List.getElem_mem hlt)⟩ := by simp [asPv, hlt]
  rw [this] at hu
  cases hu
  exact List.getElem?_eq_getElem hlt
theorem asPv_ex (xs : List Value) (h : ∀ x ∈ xs, PvOk x) (j : Nat) (x : Value) (hx : xs[j]? = some x) : ∃ u : Pv, (asPv xs h)[j]? = some u ∧ u.1 = x := by
  have hlt := (List.getElem?_eq_some_iff.1 hx).1
  refine ⟨(asPv xs h)[j]'(by rw [asPv_len]; exact hlt), List.getElem?_eq_getElem _, ?_⟩
  have := asPv_get xs h j _ (List.getElem?_eq_getElem (by rw [asPv_len]; exact hlt))
  rw [hx] at this
  exact (Option.some.inj this).symm
/-- What holds between two rounds: none of what has come opens. -/
structure OpI (w9 : World) (pre : List (Int × Pv)) (W : World) : Prop where
  no : ∀ x ∈ pre, ¬ isOpV x.2
  bl : Bl w9 W
/-- .. and when one has come. -/
structure OpX (w : World) (rb : Nat) (pre : List (Int × Pv)) (W : World) : Prop where
  ex : ∃ p x, pre = p ++ [x] ∧ (∀ y ∈ p, ¬ isOpV y.2) ∧ isOpV x.2 ∧ W.heap[rb]? = some (.cells #[.int .i64 x.1] 3 (0, 0))
  bl : Bl w W
/-- What opened hands back. -/
def openI (l : List Pc) : Int := match openedL l with
  | none => -1
  | some x => (x.1 : Int)
theorem back_none {l : List Pc} {w : World} {base : Nat} {xs : List Value} (h3 : PcR w base l xs) (hok : ∀ x ∈ xs, PvOk x) (hno : ∀ x ∈ upto (backF (asPv xs hok)) (asPv xs hok).length, ¬ isOpV x.2) : openI l = -1 := by
  unfold openI
  rw [opened_none l]
  intro p hp img live n e
  subst e
  obtain ⟨i, hi⟩ := List.getElem?_of_mem hp
  have hlt := (List.getElem?_eq_some_iff.1 hi).1
  obtain ⟨z, hz⟩ : ∃ z, xs[i]? = some z := ⟨_, List.getElem?_eq_getElem (by rw [h3.len]; exact hlt)⟩
  obtain ⟨ob, hob, _⟩ := h3.get i _ z hi hz
  obtain ⟨u, hu, hu1⟩ := asPv_ex xs hok i z hz
  have hl := asPv_len xs hok
  have hl2 := h3.len
  refine hno (backF (asPv xs hok) ((asPv xs hok).length - 1 - i)) ?_ ?_
  · unfold upto
    exact List.mem_map.2 ⟨_, List.mem_range.2 (by omega), rfl⟩
  · refine ⟨ob, ?_⟩
    unfold backF
    dsimp only
    rw [show (asPv xs hok).length - 1 - ((asPv xs hok).length - 1 - i) = i by omega, hu]
    exact hu1.trans hob
theorem back_some {l : List Pc} {w : World} {base : Nat} {xs : List Value} (h3 : PcR w base l xs) (hok : ∀ x ∈ xs, PvOk x) {k : Nat} (hk : k ≤ (asPv xs hok).length) {p : List (Int × Pv)} {x : Int × Pv} (he : upto (backF (asPv xs hok)) k = p ++ [x]) (hno : ∀ y ∈ p, ¬ isOpV y.2) (hx : isOpV x.2) : openI l = x.1 := by
  have hl := asPv_len xs hok
  have hl2 := h3.len
  have hlen := congrArg List.length he
  rw [upto_length, List.length_append, List.length_singleton] at hlen
  obtain ⟨k', rfl⟩ : ∃ k', k = k' + 1 := ⟨p.length, hlen⟩
  rw [upto_succ] at he
  obtain ⟨hp, hx1⟩ := List.append_inj' he rfl
  have hx2 : backF (asPv xs hok) k' = x := by simpa using hx1
  obtain ⟨j, hj⟩ : ∃ j, (asPv xs hok).length - 1 - k' = j := ⟨_, rfl⟩
  have hjl : j < xs.length := by omega
  obtain ⟨z, hz⟩ : ∃ z, xs[j]? = some z := ⟨_, List.getElem?_eq_getElem hjl⟩
  obtain ⟨u, hu, hu1⟩ := asPv_ex xs hok j z hz
  have hxv : x = (((j : Nat) : Int), u) := by
    rw [← hx2]; unfold backF; rw [hj, hu]; rfl
  subst hxv
  obtain ⟨b, hb⟩ := hx
  dsimp only at hb
  rw [hu1] at hb
  obtain ⟨q, hq⟩ : ∃ q, l[j]? = some q := ⟨_, List.getElem?_eq_getElem (by rw [← hl2]; exact hjl)⟩
  have hv := h3.get j q z hq hz
  have main : ∀ img live n, q = .op img live n → openI l = (j : Int) := by
    rintro img live n rfl
    unfold openI
    rw [opened_at img live n l j hq]
    intro i r hi hr a c d e
    subst e
    have hlt := (List.getElem?_eq_some_iff.1 hr).1
    obtain ⟨y, hy⟩ : ∃ y, xs[i]? = some y := ⟨_, List.getElem?_eq_getElem (by rw [h3.len]; exact hlt)⟩
    obtain ⟨ob, hob, _⟩ := h3.get i _ y hr hy
    obtain ⟨v, hv1, hv2⟩ := asPv_ex xs hok i y hy
    refine hno (backF (asPv xs hok) ((asPv xs hok).length - 1 - i)) ?_ ?_
    · rw [← hp]
      unfold upto
      exact List.mem_map.2 ⟨_, List.mem_range.2 (by omega), rfl⟩
    · refine ⟨ob, ?_⟩
      unfold backF
      dsimp only
      rw [show (asPv xs hok).length - 1 - ((asPv xs hok).length - 1 - i) = i by omega, hv1]
      exact hv2.trans hob
  cases q with
  | node k s t f =>
    obtain ⟨v, g1, _⟩ := hv
    rw [hb] at g1; unfold opV at g1; cases g1
  | run r =>
    unfold PcV at hv
    rw [hb] at hv; unfold opV at hv; cases hv
  | op img live n => exact main img live n rfl
end Go.Proofs.YtjocbifjmchbcaaGreatDoor
/- The parser's opened: its walk. -/
namespace Go.Proofs.YtjocbifjmchbcaaGreatDoor
open Go.RowKit Go.Shelf

attribute [local go_sem] Oper.semAt_some

set_option maxRecDepth 100000 in
set_option maxHeartbeats 4000000 in
theorem opened_any (w0 w : World) (pb : Nat) (s : List UInt8) (dv nv : Value) (m : Int) (a : Pa) (hZ : Pz w0 w pb s dv nv m a) (hl : a.l.length ≤ 1000000) :
    Calls Tryz.prog 76 #[.pointer (some ⟨pb, 0, none⟩)] w fun e w' => e = .returned (.int .i64 (openI a.l)) ∧ Bl w w' := by
  obtain ⟨lo, lc, xs, h1, h2, h3⟩ := hZ.ex
  have A7 := ta_node_op; have A8 := ta_run_op; have A9 := ta_op_op
  have hok : ∀ x ∈ xs, PvOk x := fun x hx => by
    obtain ⟨i, hi⟩ := List.getElem?_of_mem hx
    have hlt := (List.getElem?_eq_some_iff.1 hi).1
    exact (h3.get i _ x (List.getElem?_eq_getElem (by rw [← h3.len]; exact hlt)) hi).ok
  have hzl := asPv_len xs hok
  have hxl := h3.len
  obtain ⟨zs, hzs⟩ : ∃ zs, asPv xs hok = zs := ⟨_, rfl⟩
  have hnone := back_none h3 hok
  have hsome := fun {k : Nat} hk {p : List (Int × Pv)} {x : Int × Pv} he hn hx => back_some h3 hok (k := k) hk (p := p) (x := x) he hn hx
  have hget := asPv_get xs hok
  rw [hzs] at hzl hnone hsome hget
  obtain ⟨n, hn⟩ : ∃ n, a.l.length = n := ⟨_, rfl⟩
  rw [hn] at h1 h2 hl hxl
  have hb := heap_lt h1
  have c2 : w.cell? ⟨pb, 2, none⟩ = some (.slice lo n lc) := by rw [Lib.cell_of_heap h1]; rfl
  have hzn : zs.length = n := by omega
  have hsl : (Value.slice lo n lc = .slice none 0 0 ∧ zs = []) ∨ ∃ g, lo = some ⟨g, 0, none⟩ ∧ g < w.heap.size ∧ ∀ j (u : Pv), zs[j]? = some u → w.cell? ⟨g, 0 + j, none⟩ = some u.1 := by
    rcases h2.2 with ⟨e1, e2⟩ | ⟨g, cap, cur, e1, _, e3, _⟩
    · exact .inl ⟨e1, List.length_eq_zero_iff.1 (by omega)⟩
    · cases e1
      refine .inr ⟨g, rfl, heap_lt e3, fun j u hj => ?_⟩
      have := h2.cells (g := g) rfl j u.1 (hget j u hj)
      rw [addr0] at this
      rw [Nat.zero_add]; exact this
  obtain ⟨r, hr⟩ : ∃ r, openI a.l = r := ⟨_, rfl⟩
  rw [hr] at hnone hsome ⊢
  clear hr hzs hn h1 hZ h3 h2 hget
  refine (callsIn_wide (n := 5)).1 ?_
  refine callsIn_of_wp_marks Tryz.func76 rfl trivial ?_ rfl
  simp only [Tryz.ntmps76, List.size_toArray, List.length_cons, List.length_nil, Nat.reduceAdd, Nat.reduceSub, Array.replicate_succ, Array.replicate_zero, List.push_toArray, List.append_toArray, List.nil_append, List.cons_append]
  refine wpIn_wide.2 ?_
  go_wp2_with fail
  have hbA : Bl w (w.alloc (.cells #[.int .i64 0] 3)) := (Bl.refl w).alloc _
  have hrA := heap_alloc_new w (.cells #[.int .i64 0] 3)
  obtain ⟨w1, hw1⟩ : ∃ w1, w.alloc (.cells #[.int .i64 0] 3) = w1 := ⟨_, rfl⟩
  obtain ⟨rb, hrb⟩ : ∃ rb, w.heap.size = rb := ⟨_, rfl⟩
  rw [hw1] at hbA hrA ⊢
  rw [hrb] at hrA ⊢
  have hrb := Lib.hid hrb
  clear hw1
  refine ((callsIn_wide (n := 5)).1 (back_piece Fence.wide 5 trivial rfl lo n lc _)).mono ?_
  rintro e w8 ⟨rfl, hw8⟩
  dsimp only
  go_wp2_with fail
  refine (wpIn_wide (n := 5)).1 ?_
  have hb8 : Bl w1 w8 := by rw [hw8]; exact (Bl.refl w1).alloc _
  have hbs : w8.heap[w1.heap.size]? = some (.cells #[.slice lo n lc] 44 (0, 0)) := by rw [hw8]; exact heap_alloc_new w1 _
  obtain ⟨Bx, hBs⟩ : ∃ Bx, w1.heap.size = Bx := ⟨_, rfl⟩
  rw [hBs] at hbs ⊢
  clear hw8 hBs
  obtain ⟨gb, hgb, hcells⟩ : ∃ gb, gb < w8.heap.size ∧ ((Value.slice lo n lc = .slice none 0 0 ∧ zs = []) ∨ ∃ off cap, Value.slice lo n lc = .slice (some ⟨gb, off, none⟩) zs.length cap ∧ gb < w8.heap.size ∧ ∀ j (u : Pv), zs[j]? = some u → w8.cell? ⟨gb, off + j, none⟩ = some u.1) := by
    have hsz := (hbA.trans hb8).size
    rcases hsl with h | ⟨g, rfl, h5, h6⟩
    · exact ⟨Bx, heap_lt hbs, .inl h⟩
    · exact ⟨g, by omega, .inr ⟨0, lc, by rw [hzn], by omega, fun j u hj => (hbA.trans hb8).cell (h6 j u hj)⟩⟩
  have hr8 := (hb8.block (heap_lt hrA)).trans hrA
  refine wpIn_rangeFunc_ownG rfl (by decide) (gf := 182) (lb := #[.pointer (some ⟨Bx, 0, none⟩)]) rfl trivial (enters_of Tryz.func182 (by kernel_rfl) rfl)
    (back_stops_piece (fun v : Pv => v.1) Fence.wide 4 trivial rfl (by decide) Bx gb _ zs (by omega) w8 hbs hcells) Kp2.trans ?hKb (Below.refl _ _) (fun _ => rfl)
    (OpI w8) (fun c pre W => c = .ret ∧ OpX w rb pre W) ?hI ?hIx ?h0 ?a1 ?assign ?body ?done ?stop
  case assign =>
    intro l x W K hK
    gi_wp2
    exact hK
  case hKb =>
    intro W l o o' hl _ _ _
    exact ⟨World.putObj_heap_other (fun e => by have := heap_lt hbs; omega), World.putObj_heap_other (fun e => by omega)⟩
  case hI =>
    rintro pre W W' row ⟨h4, h5⟩ hg hr
    exact ⟨h4, h5.grown hg (fun x hx => (hr x hx).1)⟩
  case hIx =>
    rintro c pre W W' row ⟨rfl, ⟨p, x, e1, e2, e3, e4⟩, h5⟩ hg hr
    have hsz := (hbA.trans hb8).size
    have hlt := heap_lt hr8
    refine ⟨rfl, ⟨p, x, e1, e2, e3, ?_⟩, h5.grown hg (fun y hy => by have := (hr y hy).1; omega)⟩
    rw [hg.block rb (heap_lt e4) (fun e => by have := (hr rb e.symm).1; omega)]
    exact e4
  case h0 => exact ⟨fun x hx => absurd hx (by simp), Bl.refl _⟩
  case stop =>
    rintro D c pre W hD ⟨k, hk, he⟩ ⟨rfl, ⟨p, x, e1, e2, e3, e4⟩, h5⟩ hK
    have hres := hsome hk (he.symm.trans e1) e2 e3
    gi_wp2
    have hg := grownBy_putObj' W D (.deferred none)
    refine ⟨by simp, .inl ⟨_, _, rfl, run_takeDeferred hK, ?_⟩⟩
    have hrd : (W.putObj D (.deferred none)).cell? ⟨rb, 0, none⟩ = some (.int .i64 r) := by
      have hsz := (hbA.trans hb8).size
      have := heap_lt hr8
      rw [Lib.cell_of_heap ((World.putObj_heap_other (by omega)).trans e4), ← hres]; rfl
    refine ⟨.int .i64 r, ?_, rfl, h5.grown hg (fun b hb => by cases hb; exact Nat.le_trans (hbA.trans hb8).size hD)⟩
    simp [results, Tryz.results76, go_sem, hrd]
  case body =>
    rintro l pre ⟨i, ⟨v, hv⟩⟩ W ⟨h4, h5⟩ hpre
    have hbW : Bl w W := (hbA.trans hb8).trans h5
    rcases hv with ⟨y, rfl⟩ | ⟨y, rfl⟩ | ⟨y, rfl⟩
    · gi_wp2_with fail
      refine ⟨KeepsFrom.refl _ _, ⟨rfl, rfl⟩, ⟨fun z hz => ?_, h5⟩⟩
      rcases List.mem_append.1 hz with hz | hz
      · exact h4 z hz
      · rw [List.mem_singleton.1 hz]
        rintro ⟨b, hb⟩
        unfold opV at hb; cases hb
    · gi_wp2_with fail
      refine ⟨KeepsFrom.refl _ _, ⟨rfl, rfl⟩, ⟨fun z hz => ?_, h5⟩⟩
      rcases List.mem_append.1 hz with hz | hz
      · exact h4 z hz
      · rw [List.mem_singleton.1 hz]
        rintro ⟨b, hb⟩
        unfold opV at hb; cases hb
    · unfold opV
      have hrW := (h5.block (heap_lt hr8)).trans hr8
      have r0 : W.cell? ⟨rb, 0, none⟩ = some (.int .i64 0) := by rw [Lib.cell_of_heap hrW]; rfl
      have rz : W.frozen? ⟨rb, 0, none⟩ = false := Lib.frozen_of_heap hrW 0
      gi_wp2_with fail
      have hg := grownBy_setCell W ⟨rb, 0, none⟩ (.int .i64 i)
      refine ⟨KeepsFrom.of_grownBy hg (fun j hj => by cases hj; exact heap_lt hr8), rfl, ⟨pre, _, rfl, h4, ⟨y, rfl⟩, ?_⟩, hbW.grown hg (fun b hb => by cases hb; rw [hrb.out]; exact Nat.le_refl _)⟩
      simp [World.setCell, Array.getElem?_modify, hrW]
  case done =>
    rintro D ys W hD rfl ⟨h4, h5⟩ hK
    have hres := hnone h4
    have hrW := (h5.block (heap_lt hr8)).trans hr8
    have r0 : W.cell? ⟨rb, 0, none⟩ = some (.int .i64 0) := by rw [Lib.cell_of_heap hrW]; rfl
    have rz : W.frozen? ⟨rb, 0, none⟩ = false := Lib.frozen_of_heap hrW 0
    gi_wp2
    go_wp2
    have hg1 := grownBy_setCell W ⟨rb, 0, none⟩ (.int .i64 (-1))
    have hK1 : (W.setCell ⟨rb, 0, none⟩ (.int .i64 (-1))).heap[D]? = some (.deferred (some [])) := by
      rw [hg1.block D (heap_lt hK) (fun e => by have := Option.some.inj e; have := heap_lt hr8; dsimp only at *; omega)]; exact hK
    have hg := grownBy_putObj' (W.setCell ⟨rb, 0, none⟩ (.int .i64 (-1))) D (.deferred none)
    refine ⟨by simp, .inl ⟨_, _, rfl, run_takeDeferred hK1, ?_⟩⟩
    have hrd : ((W.setCell ⟨rb, 0, none⟩ (.int .i64 (-1))).putObj D (.deferred none)).cell? ⟨rb, 0, none⟩ = some (.int .i64 r) := by
      have := heap_lt hr8
      have e4 : (W.setCell ⟨rb, 0, none⟩ (.int .i64 (-1))).heap[rb]? = some (.cells #[.int .i64 (-1)] 3 (0, 0)) := by simp [World.setCell, Array.getElem?_modify, hrW]
      rw [Lib.cell_of_heap ((World.putObj_heap_other (by omega)).trans e4), hres]; rfl
    refine ⟨.int .i64 r, ?_, rfl, (((hbA.trans hb8).trans h5).grown hg1 (fun b hb => by cases hb; rw [hrb.out]; exact Nat.le_refl _)).grown hg (fun b hb => by cases hb; exact Nat.le_trans (hbA.trans hb8).size hD)⟩
    simp [results, Tryz.results76, go_sem, hrd]
end Go.Proofs.YtjocbifjmchbcaaGreatDoor
/- The parser's linked. -/
namespace Go.Proofs.YtjocbifjmchbcaaGreatDoor
open Go.RowKit

theorem wgt_app : ∀ a b : List Pc, wgt (a ++ b) = wgt a + wgt b
  | [], b => by simp [wgt]
  | .run r :: t, b => by simp [wgt, wgt_app t b]; omega
  | .node _ _ _ _ :: t, b => by simp [wgt, wgt_app t b]; omega
  | .op _ _ _ :: t, b => by simp [wgt, wgt_app t b]; omega
theorem wgt_take (l : List Pc) (k : Nat) : wgt (l.take k) ≤ wgt l := by
  have := wgt_app (l.take k) (l.drop k)
  rw [List.take_append_drop] at this; omega
theorem wgt_drop (l : List Pc) (k : Nat) : wgt (l.drop k) ≤ wgt l := by
  have := wgt_app (l.take k) (l.drop k)
  rw [List.take_append_drop] at this; omega
theorem Rep.fr {w w' : World} {v : Value} {f : Fo} (h : Rep w [] v f) (k : Fr [] w w') : Rep w' [] v f := h.more k (fun x hx => by cases hx)
set_option maxRecDepth 100000 in
set_option maxHeartbeats 4000000 in
theorem linked_any (w0 w : World) (pb : Nat) (s : List UInt8) (dv nv : Value) (m : Int) (a : Pa) (hZ : Pz w0 w pb s dv nv m a) (hw : wgt a.l ≤ 100000) (hc : ∀ r, Pc.run r ∈ a.l → r.c.toNat < 128) (ha : a.at_ ≤ 1000000) (k : Nat) (hk : k < a.l.length) (img : Bool) (lb : ByteArray) (d e : List UInt8) (n : Nat) (hn : n ≤ 100000) :
    Calls Tryz.prog 79 #[.pointer (some ⟨pb, 0, none⟩), .int .i64 (k : Int), .string (mkB (opS img)), .agg #[.string lb, .string (mkB d), .string (mkB e)], .int .i64 (n : Int)] w fun en w' => en = .returned (.tuple #[]) ∧
      Pz w0 w' pb s dv nv m (if img then Pa.add ⟨a.at_, a.l.take k⟩ 21 d e (nodesL (a.l.drop (k + 1))) (1 + n) else Pa.add ⟨a.at_, killL (a.l.take k)⟩ 20 d e (nodesL (a.l.drop (k + 1))) (1 + n)) := by
  obtain ⟨lo, lc, xs, h1, h2, h3⟩ := hZ.ex
  have hlen := wgt_len a.l
  obtain ⟨g, gc, hv, _, hgl⟩ := h2.form (by omega)
  cases hv
  have hb := heap_lt h1
  have c2 : w.cell? ⟨pb, 2, none⟩ = some (.slice (some ⟨g, 0, none⟩) a.l.length lc) := by rw [Lib.cell_of_heap h1]; rfl
  have hcap : a.l.length ≤ lc := by
    rcases h2.2 with ⟨h', _⟩ | ⟨g', cap', cur, h', _, _, hcc, _⟩
    · cases h'
    · cases h'; exact hcc
  obtain ⟨so, hso⟩ : ∃ so : Option Addr, so = if lc = k + 1 then some ⟨g, 0, none⟩ else some ⟨g, k + 1, none⟩ := ⟨_, rfl⟩
  have hP : Pcs w so (a.l.drop (k + 1)) := ⟨fun i p hp => by
    obtain ⟨b', z, e1, e2, _, e4⟩ := h3.pcs h2 (k + 1) i p hp
    cases e1
    have hlt := (List.getElem?_eq_some_iff.1 hp).1
    rw [List.length_drop] at hlt
    exact ⟨g, k + 1, z, by rw [hso, if_neg (by omega)], e2, e4⟩⟩
  obtain ⟨L, hL⟩ : ∃ L, a.l.length = L := ⟨_, rfl⟩
  have hdl : (a.l.drop (k + 1)).length = L - (k + 1) := by rw [List.length_drop, hL]
  have hND := fun W (hW : Bl w W) => nodes_any W so (L - (k + 1)) (lc - (k + 1)) (a.l.drop (k + 1)) (hP.bl hW) hdl (Nat.le_trans (wgt_drop _ _) hw) (fun r hr => hc r (List.mem_of_mem_drop hr))
  rw [hso] at hND
  rw [hL] at c2 hk hcap hlen
  have HL := Lib.hid hL
  have hw1 : ∀ W, Bl w W → Pz w0 W pb s dv nv m a ∧ Pz w0 (W.setCell ⟨pb, 2, none⟩ (.slice (some ⟨g, 0, none⟩) k lc)) pb s dv nv m { a with l := a.l.take k } ∧ W.cell? ⟨pb, 2, none⟩ = some (.slice (some ⟨g, 0, none⟩) L lc) ∧ W.frozen? ⟨pb, 2, none⟩ = false ∧ Fr [] W (W.setCell ⟨pb, 2, none⟩ (.slice (some ⟨g, 0, none⟩) k lc)) ∧ ∀ i : Nat, i ≠ pb → (W.setCell ⟨pb, 2, none⟩ (.slice (some ⟨g, 0, none⟩) k lc)).heap[i]? = W.heap[i]? := fun W hW => by
    have hZW := hZ.more hW
    have g1 := (hW.block hb).trans h1
    have g2 : W.ownsRow w0.heap.size 65 1 (.slice (some ⟨g, 0, none⟩) a.l.length lc) a.l.length xs := h2.kept (grownBy_of_bl hW none) (by simp [Value.ownBlock])
    exact ⟨hZW, hZW.cut g1 g2 (h3.keep (Nf.of_bl hW)) (by omega), hW.cell c2, Lib.frozen_of_heap g1 2, Fr.set [] W ⟨pb, 2, none⟩ _ (.inr (fun cs fz hcc => by dsimp only at hcc; rw [g1] at hcc; cases hcc)), fun i hi => Below.heap_setCell W ⟨pb, 2, none⟩ _ i (fun e => hi (by dsimp only at e; exact e))⟩
  have htl : (a.l.take k).length = k := by rw [List.length_take]; omega
  have hkll : (killL (a.l.take k)).length = k := by rw [killL_eq, List.length_map, htl]
  have i0 : (0 : Int) ≤ (k : Int) := Int.natCast_nonneg _
  have i1 : (k : Int) + 1 ≤ (L : Int) := by omega
  have i2 : (0 : Int) ≤ (k : Int) + 1 := by omega
  have i3 : (k : Int) ≤ (lc : Int) := by omega
  have i4 : (L : Int) ≤ (lc : Int) := by omega
  have hcast : ((1 + n : Nat) : Int) = 1 + (n : Int) := by omega
  clear hP hdl hL
  have fin_true : ∀ (w3 : World) (rb vc : Nat) (vo : Option Addr), w3.heap[rb]? = some (.cells #[.string lb, .string (mkB d), .string (mkB e)] 41 (0, 0)) → Pz w0 w3 pb s dv nv m ⟨a.at_, a.l.take k⟩ → Rep w3 [] (.slice vo (nodesL (a.l.drop (k + 1))).len vc) (nodesL (a.l.drop (k + 1))) →
      (w3.cell? ⟨rb, 1, none⟩ = some (.string (mkB d)) ∧ w3.cell? ⟨rb, 2, none⟩ = some (.string (mkB e))) ∧ Calls Tryz.prog 63 #[.pointer (some ⟨pb, 0, none⟩), .agg #[.int .i64 21, .string (mkB d), .string (mkB e), .int .i64 0, .int .i64 0, .bool false, .slice vo (nodesL (a.l.drop (k + 1))).len vc], .int .i64 (1 + (n : Int))] w3 fun en w' => en = .returned (.tuple #[]) ∧ Pz w0 w' pb s dv nv m (Pa.add ⟨a.at_, a.l.take k⟩ 21 d e (nodesL (a.l.drop (k + 1))) (1 + n)) := fun w3 rb vc vo hh hz hr => by
    refine ⟨⟨by rw [Lib.cell_of_heap hh]; rfl, by rw [Lib.cell_of_heap hh]; rfl⟩, ?_⟩
    have := padd_any w0 w3 pb s dv nv m ⟨a.at_, a.l.take k⟩ hz 21 d e _ _ hr (1 + n) (by dsimp only; first | (rw [htl]; omega) | (rw [hkll]; omega)) ha (by omega)
    rw [hcast] at this
    exact this
  have fin_false : ∀ (w3 : World) (rb vc : Nat) (vo : Option Addr), w3.heap[rb]? = some (.cells #[.string lb, .string (mkB d), .string (mkB e)] 41 (0, 0)) → Pz w0 w3 pb s dv nv m ⟨a.at_, killL (a.l.take k)⟩ → Rep w3 [] (.slice vo (nodesL (a.l.drop (k + 1))).len vc) (nodesL (a.l.drop (k + 1))) →
      (w3.cell? ⟨rb, 1, none⟩ = some (.string (mkB d)) ∧ w3.cell? ⟨rb, 2, none⟩ = some (.string (mkB e))) ∧ Calls Tryz.prog 63 #[.pointer (some ⟨pb, 0, none⟩), .agg #[.int .i64 20, .string (mkB d), .string (mkB e), .int .i64 0, .int .i64 0, .bool false, .slice vo (nodesL (a.l.drop (k + 1))).len vc], .int .i64 (1 + (n : Int))] w3 fun en w' => en = .returned (.tuple #[]) ∧ Pz w0 w' pb s dv nv m (Pa.add ⟨a.at_, killL (a.l.take k)⟩ 20 d e (nodesL (a.l.drop (k + 1))) (1 + n)) := fun w3 rb vc vo hh hz hr => by
    refine ⟨⟨by rw [Lib.cell_of_heap hh]; rfl, by rw [Lib.cell_of_heap hh]; rfl⟩, ?_⟩
    have := padd_any w0 w3 pb s dv nv m ⟨a.at_, killL (a.l.take k)⟩ hz 20 d e _ _ hr (1 + n) (by dsimp only; first | (rw [htl]; omega) | (rw [hkll]; omega)) ha (by omega)
    rw [hcast] at this
    exact this
  have hkl : ∀ W, Pz w0 W pb s dv nv m ⟨a.at_, a.l.take k⟩ → Calls Tryz.prog 70 #[.pointer (some ⟨pb, 0, none⟩)] W fun e w' => e = .returned (.tuple #[]) ∧ Pz w0 w' pb s dv nv m ⟨a.at_, killL (a.l.take k)⟩ ∧ Ko W w' := fun W hW => kill_any w0 W pb s dv nv m _ hW (by dsimp only; rw [htl]; omega)
  clear hcast htl hkll
  by_cases hcc : lc = k + 1
  · subst hcc
    rw [if_pos rfl, Nat.sub_self, show L - (k + 1) = 0 by omega] at hND
    cases img with
    | true =>
      have e0 : mkB (opS true) = ⟨#[33, 91]⟩ := rfl
      rw [e0]
      clear e0
      go_enter Tryz.func79, Tryz.ntmps79
      go_wp2_with fail
      all_goals
        have hnew := heap_alloc_new w (.cells #[.string lb, .string (mkB d), .string (mkB e)] 41)
        have hbA : Bl w (w.alloc (.cells #[.string lb, .string (mkB d), .string (mkB e)] 41)) := (Bl.refl w).alloc _
        obtain ⟨wA, hwA⟩ : ∃ wA, w.alloc (.cells #[.string lb, .string (mkB d), .string (mkB e)] 41) = wA := ⟨_, rfl⟩
        rw [hwA] at hnew hbA ⊢
        clear hwA
        refine (hND wA hbA).mono ?_
        rintro en w2 ⟨v, rfl, hR2, hb2⟩
        dsimp only
        obtain ⟨vo, vc, rfl⟩ := hR2.slice
        have hbw : Bl w w2 := hbA.trans hb2
        have hbx := (hb2.block (heap_lt hnew)).trans hnew
        obtain ⟨hZ2, hZ3, d2, dz, hF3, hO3⟩ := hw1 w2 hbw
        have hx3 := (hO3 w.heap.size (by omega)).trans hbx
        have hR3 := hR2.fr hF3
        obtain ⟨⟨y1, y2⟩, hAD⟩ := fin_true _ _ _ _ hx3 hZ3 hR3
        go_wp2_with fail
        refine hAD.mono ?_
        rintro en w5 ⟨rfl, hZ5⟩
        dsimp only
        go_wp2
        go_end0
        exact ⟨rfl, hZ5⟩
    | false =>
      have e0 : mkB (opS false) = ⟨#[91]⟩ := rfl
      rw [e0]
      clear e0
      go_enter Tryz.func79, Tryz.ntmps79
      go_wp2_with fail
      all_goals
        have hnew := heap_alloc_new w (.cells #[.string lb, .string (mkB d), .string (mkB e)] 41)
        have hbA : Bl w (w.alloc (.cells #[.string lb, .string (mkB d), .string (mkB e)] 41)) := (Bl.refl w).alloc _
        obtain ⟨wA, hwA⟩ : ∃ wA, w.alloc (.cells #[.string lb, .string (mkB d), .string (mkB e)] 41) = wA := ⟨_, rfl⟩
        rw [hwA] at hnew hbA ⊢
        clear hwA
        refine (hND wA hbA).mono ?_
        rintro en w2 ⟨v, rfl, hR2, hb2⟩
        dsimp only
        obtain ⟨vo, vc, rfl⟩ := hR2.slice
        have hbw : Bl w w2 := hbA.trans hb2
        have hbx := (hb2.block (heap_lt hnew)).trans hnew
        obtain ⟨hZ2, hZ3, d2, dz, hF3, hO3⟩ := hw1 w2 hbw
        have hx3 := (hO3 w.heap.size (by omega)).trans hbx
        have hR3 := hR2.fr hF3
        go_wp2_with fail
        refine (hkl _ hZ3).mono ?_
        rintro en w4 ⟨rfl, hZ4, hK4⟩
        dsimp only
        have hx4 := hK4.same w.heap.size _ hx3 (by intro cs fz e; cases e)
        have hR4 := hR3.fr hK4.fr
        obtain ⟨⟨y1, y2⟩, hAD⟩ := fin_false _ _ _ _ hx4 hZ4 hR4
        go_wp2_with fail
        refine hAD.mono ?_
        rintro en w5 ⟨rfl, hZ5⟩
        dsimp only
        go_wp2
        go_end0
        exact ⟨rfl, hZ5⟩
  · skip
    rw [if_neg hcc] at hND
    cases img with
    | true =>
      have e0 : mkB (opS true) = ⟨#[33, 91]⟩ := rfl
      rw [e0]
      clear e0
      go_enter Tryz.func79, Tryz.ntmps79
      go_wp2_with fail
      all_goals
        have hnew := heap_alloc_new w (.cells #[.string lb, .string (mkB d), .string (mkB e)] 41)
        have hbA : Bl w (w.alloc (.cells #[.string lb, .string (mkB d), .string (mkB e)] 41)) := (Bl.refl w).alloc _
        obtain ⟨wA, hwA⟩ : ∃ wA, w.alloc (.cells #[.string lb, .string (mkB d), .string (mkB e)] 41) = wA := ⟨_, rfl⟩
        rw [hwA] at hnew hbA ⊢
        clear hwA
        refine (hND wA hbA).mono ?_
        rintro en w2 ⟨v, rfl, hR2, hb2⟩
        dsimp only
        obtain ⟨vo, vc, rfl⟩ := hR2.slice
        have hbw : Bl w w2 := hbA.trans hb2
        have hbx := (hb2.block (heap_lt hnew)).trans hnew
        obtain ⟨hZ2, hZ3, d2, dz, hF3, hO3⟩ := hw1 w2 hbw
        have hx3 := (hO3 w.heap.size (by omega)).trans hbx
        have hR3 := hR2.fr hF3
        obtain ⟨⟨y1, y2⟩, hAD⟩ := fin_true _ _ _ _ hx3 hZ3 hR3
        go_wp2_with fail
        refine hAD.mono ?_
        rintro en w5 ⟨rfl, hZ5⟩
        dsimp only
        go_wp2
        go_end0
        exact ⟨rfl, hZ5⟩
    | false =>
      have e0 : mkB (opS false) = ⟨#[91]⟩ := rfl
      rw [e0]
      clear e0
      go_enter Tryz.func79, Tryz.ntmps79
      go_wp2_with fail
      all_goals
        have hnew := heap_alloc_new w (.cells #[.string lb, .string (mkB d), .string (mkB e)] 41)
        have hbA : Bl w (w.alloc (.cells #[.string lb, .string (mkB d), .string (mkB e)] 41)) := (Bl.refl w).alloc _
        obtain ⟨wA, hwA⟩ : ∃ wA, w.alloc (.cells #[.string lb, .string (mkB d), .string (mkB e)] 41) = wA := ⟨_, rfl⟩
        rw [hwA] at hnew hbA ⊢
        clear hwA
        refine (hND wA hbA).mono ?_
        rintro en w2 ⟨v, rfl, hR2, hb2⟩
        dsimp only
        obtain ⟨vo, vc, rfl⟩ := hR2.slice
        have hbw : Bl w w2 := hbA.trans hb2
        have hbx := (hb2.block (heap_lt hnew)).trans hnew
        obtain ⟨hZ2, hZ3, d2, dz, hF3, hO3⟩ := hw1 w2 hbw
        have hx3 := (hO3 w.heap.size (by omega)).trans hbx
        have hR3 := hR2.fr hF3
        go_wp2_with fail
        refine (hkl _ hZ3).mono ?_
        rintro en w4 ⟨rfl, hZ4, hK4⟩
        dsimp only
        have hx4 := hK4.same w.heap.size _ hx3 (by intro cs fz e; cases e)
        have hR4 := hR3.fr hK4.fr
        obtain ⟨⟨y1, y2⟩, hAD⟩ := fin_false _ _ _ _ hx4 hZ4 hR4
        go_wp2_with fail
        refine hAD.mono ?_
        rintro en w5 ⟨rfl, hZ5⟩
        dsimp only
        go_wp2
        go_end0
        exact ⟨rfl, hZ5⟩
end Go.Proofs.YtjocbifjmchbcaaGreatDoor
/- The parser's closes, where a bracket leads somewhere. -/
namespace Go.Proofs.YtjocbifjmchbcaaGreatDoor
open Go.RowKit

set_option maxRecDepth 100000 in
theorem ta_op_op1 (v : Value) (w : World) : (Instr.typeAssert (.iface 79 v) 65 79 false).run Tryz.prog w = .ok v w := by kernel_rfl
theorem opened_get : ∀ (l : List Pc) (k : Nat) (img live : Bool) (n : Nat), openedL l = some (k, img, live, n) → l[k]? = some (.op img live n)
  | [], k, img, live, n, h => by cases h
  | p :: t, k, img, live, n, h => by
    unfold openedL at h
    cases ht : openedL t with
    | some x =>
      rw [ht] at h
      obtain ⟨k', x⟩ := x
      cases h
      have := opened_get t k' img live n ht
      simpa using this
    | none =>
      rw [ht] at h
      cases p with
      | op a b c => cases h; rfl
      | node => cases h
      | run => cases h
set_option maxRecDepth 100000 in
set_option maxHeartbeats 8000000 in
theorem closes_link (w0 w : World) (pb : Nat) (s : List UInt8) (dv nv : Value) (m : Int) (a : Pa) (hZ : Pz w0 w pb s dv nv m a) (hw : wgt a.l ≤ 100000) (hc : ∀ r, Pc.run r ∈ a.l → r.c.toNat < 128) (ha : a.at_ < s.length) (hs : s.length ≤ 1000000) (k : Nat) (img : Bool) (n : Nat) (hO : openedL a.l = some (k, img, true, n)) (hn : n ≤ a.at_)
    (lab lb : ByteArray) (d e : List UInt8) (nn : Nat) (hnn : nn ≤ 100000)
    (hN : ∀ W, Bl w W → Calls Tryz.prog 77 #[.pointer (some ⟨pb, 0, none⟩), .string (mkB ((s.take a.at_).drop n))] W fun en w' => en = .returned (.tuple #[.string lab, .bool false]) ∧ Bl W w')
    (hT : ∀ W, Bl w W → Calls Tryz.prog 78 #[.pointer (some ⟨pb, 0, none⟩), .string (mkB ((s.take a.at_).drop n))] W fun en w' => en = .returned (.tuple #[.agg #[.string lb, .string (mkB d), .string (mkB e)], .int .i64 (nn : Int), .bool true]) ∧ Bl W w') :
    Calls Tryz.prog 37 #[.pointer (some ⟨pb, 0, none⟩)] w fun en w' => en = .returned (.tuple #[]) ∧
      Pz w0 w' pb s dv nv m (if img then Pa.add ⟨a.at_, a.l.take k⟩ 21 d e (nodesL (a.l.drop (k + 1))) (1 + nn) else Pa.add ⟨a.at_, killL (a.l.take k)⟩ 20 d e (nodesL (a.l.drop (k + 1))) (1 + nn)) := by
  have hlen := wgt_len a.l
  have hOP := opened_any w0 w pb s dv nv m a hZ (by omega)
  have hoi : openI a.l = (k : Int) := by unfold openI; rw [hO]
  rw [hoi] at hOP
  have hk := opened_get _ _ _ _ _ hO
  have hkl := (List.getElem?_eq_some_iff.1 hk).1
  obtain ⟨lo, lc, xs, h1, h2, h3⟩ := hZ.ex
  obtain ⟨gb, z, hlo, cz, hzx, ob, hob, hobh⟩ := h3.pcs h2 0 k _ (by rw [List.drop_zero]; exact hk)
  subst hlo hob
  rw [Nat.zero_add] at cz
  have hb := heap_lt h1
  have c0 : w.cell? ⟨pb, 0, none⟩ = some (.string (mkB s)) := by rw [Lib.cell_of_heap h1]; rfl
  have c1 : w.cell? ⟨pb, 1, none⟩ = some (.int .i64 (a.at_ : Int)) := by rw [Lib.cell_of_heap h1]; rfl
  have c2 : w.cell? ⟨pb, 2, none⟩ = some (.slice (some ⟨gb, 0, none⟩) a.l.length lc) := by rw [Lib.cell_of_heap h1]; rfl
  have o0 : w.cell? ⟨ob, 0, none⟩ = some (.string (mkB (opS img))) := by rw [Lib.cell_of_heap hobh]; rfl
  have o1 : w.cell? ⟨ob, 1, none⟩ = some (.bool true) := by rw [Lib.cell_of_heap hobh]; rfl
  have o2 : w.cell? ⟨ob, 2, none⟩ = some (.int .i64 (n : Int)) := by rw [Lib.cell_of_heap hobh]; rfl
  have A9 := ta_op_op1
  obtain ⟨RES, hRES⟩ : ∃ RES, (if img = true then Pa.add ⟨a.at_, a.l.take k⟩ 21 d e (nodesL (a.l.drop (k + 1))) (1 + nn) else Pa.add ⟨a.at_, killL (a.l.take k)⟩ 20 d e (nodesL (a.l.drop (k + 1))) (1 + nn)) = RES := ⟨_, rfl⟩
  have hLK : ∀ W, Bl w W → Calls Tryz.prog 79 #[.pointer (some ⟨pb, 0, none⟩), .int .i64 (k : Int), .string (mkB (opS img)), .agg #[.string lb, .string (mkB d), .string (mkB e)], .int .i64 (nn : Int)] W fun en w' => en = .returned (.tuple #[]) ∧ Pz w0 w' pb s dv nv m RES := fun W hW => by
    rw [← hRES]
    exact linked_any w0 W pb s dv nv m a (hZ.more hW) hw hc (by omega) k hkl img lb d e nn hnn
  rw [hRES]
  clear hRES
  have hX : (mkB s).extract n a.at_ = mkB ((s.take a.at_).drop n) := extract_mk s n a.at_
  rw [← hX] at hN hT
  have hss := mkB_size s
  obtain ⟨S, hS⟩ : ∃ S, mkB s = S := ⟨_, rfl⟩
  rw [hS] at hN hT c0 hss
  obtain ⟨q, hq⟩ : ∃ q, a.at_ = q := ⟨_, rfl⟩
  obtain ⟨L, hL⟩ : ∃ L, a.l.length = L := ⟨_, rfl⟩
  have i1 : (q : Int) ≤ (S.size : Int) := by omega
  have i2 : (n : Int) ≤ (q : Int) := by omega
  have i3 : (0 : Int) ≤ (n : Int) := Int.natCast_nonneg _
  have i4 : (0 : Int) ≤ (k : Int) := Int.natCast_nonneg _
  have i5 : (k : Int) < (L : Int) := by omega
  have i6 : ((k : Int) < 0) = False := by simp
  rw [hq] at c1 hN hT
  rw [hL] at c2
  clear hX hS hss h1 h2 h3 hq hL hO hoi hk hzx hobh
  go_enter Tryz.func37, Tryz.ntmps37
  go_wp2_with fail
  refine hOP.mono ?_
  rintro en w1 ⟨rfl, hb1⟩
  dsimp only
  have d0 := hb1.cell c0; have d1 := hb1.cell c1; have d2 := hb1.cell c2; have dz := hb1.cell cz; have e0 := hb1.cell o0; have e1 := hb1.cell o1; have e2 := hb1.cell o2
  go_wp2_with fail
  go_quiet (fail)
  go_wp2_with fail
  refine (hN _ (hb1.drewN _)).mono ?_
  rintro en w2 ⟨rfl, hb2⟩
  dsimp only
  have hbw2 := (hb1.drewN nq).trans hb2
  go_wp2_with fail
  refine (hT w2 hbw2).mono ?_
  rintro en w3 ⟨rfl, hb3⟩
  dsimp only
  have hbw3 := hbw2.trans hb3
  go_upto_region 9 with fail
  have hnew := heap_alloc_new w3 (.cells #[.string lb, .string (mkB d), .string (mkB e)] 41)
  have hb4 : Bl w (w3.alloc (.cells #[.string lb, .string (mkB d), .string (mkB e)] 41)) := hbw3.alloc _
  obtain ⟨w4, hw4⟩ : ∃ w4, w3.alloc (.cells #[.string lb, .string (mkB d), .string (mkB e)] 41) = w4 := ⟨_, rfl⟩
  obtain ⟨rb, hrb⟩ : ∃ rb, w3.heap.size = rb := ⟨_, rfl⟩
  rw [hw4] at hnew hb4 ⊢
  rw [hrb] at hnew ⊢
  clear hw4 hrb
  have f0 := hb4.cell o0; have f1 := hb4.cell o1
  have r0 : w4.cell? ⟨rb, 0, none⟩ = some (.string lb) := by rw [Lib.cell_of_heap hnew]; rfl
  have r1 : w4.cell? ⟨rb, 1, none⟩ = some (.string (mkB d)) := by rw [Lib.cell_of_heap hnew]; rfl
  have r2 : w4.cell? ⟨rb, 2, none⟩ = some (.string (mkB e)) := by rw [Lib.cell_of_heap hnew]; rfl
  have hLK4 := hLK w4.drew hb4.drew
  go_upto_region 13 with fail
  have hHeld : (fun w' : World => w'.cell? ⟨ob, 0, none⟩ = some (.string (mkB (opS img))) ∧ w'.cell? ⟨rb, 0, none⟩ = some (.string lb) ∧ w'.cell? ⟨rb, 1, none⟩ = some (.string (mkB d)) ∧ w'.cell? ⟨rb, 2, none⟩ = some (.string (mkB e))) w4.drew := ⟨f0, r0, r1, r2⟩
  refine wp_region_n (fun w' : World => w'.cell? ⟨ob, 0, none⟩ = some (.string (mkB (opS img))) ∧ w'.cell? ⟨rb, 0, none⟩ = some (.string lb) ∧ w'.cell? ⟨rb, 1, none⟩ = some (.string (mkB d)) ∧ w'.cell? ⟨rb, 2, none⟩ = some (.string (mkB e))) [0, 1, 2, 3, 4, 5, 6, 7] (by kernel_rfl) ?_
  refine wpAnyN_take (i := 0) (v := ?rv1) rfl (by kernel_rfl) (by kernel_rfl) (by kernel_rfl) (by kernel_rfl) (by kernel_rfl) (fun _ _ _ h => h) (Or.inl ⟨by rfl, ?rh1⟩) hHeld ?_
  case rh1 => (intro w hSw; (try dsimp only at hSw); go_simp; try with_reducible rfl)
  refine wpAnyN_take (i := 1) (v := ?rv2) rfl (by kernel_rfl) (by kernel_rfl) (by kernel_rfl) (by kernel_rfl) (by kernel_rfl) (fun _ _ _ h => h) (Or.inl ⟨by rfl, ?rh2⟩) hHeld ?_
  case rh2 => (intro w hSw; (try dsimp only at hSw); go_simp; try with_reducible rfl)
  refine wpAnyN_take (i := 2) (v := ?rv3) rfl (by kernel_rfl) (by kernel_rfl) (by kernel_rfl) (by kernel_rfl) (by kernel_rfl) (fun _ _ _ h => h) (Or.inl ⟨by rfl, ?rh3⟩) hHeld ?_
  case rh3 => (intro w hSw; (try dsimp only at hSw); go_simp; try with_reducible rfl)
  refine wpAnyN_take (i := 3) (v := ?rv4) rfl (by kernel_rfl) (by kernel_rfl) (by kernel_rfl) (by kernel_rfl) (by kernel_rfl) (fun _ _ _ h => h) (Or.inl ⟨by rfl, ?rh4⟩) hHeld ?_
  case rh4 => (intro w hSw; (try dsimp only at hSw); go_simp; try with_reducible rfl)
  refine wpAnyN_take (i := 4) (v := ?rv5) rfl (by kernel_rfl) (by kernel_rfl) (by kernel_rfl) (by kernel_rfl) (by kernel_rfl) (fun _ _ _ h => h) (Or.inl ⟨by rfl, ?rh5⟩) hHeld ?_
  case rh5 => (intro w hSw; (try dsimp only at hSw); go_simp; try with_reducible rfl)
  refine wpAnyN_take (i := 5) (v := ?rv6) rfl (by kernel_rfl) (by kernel_rfl) (by kernel_rfl) (by kernel_rfl) (by kernel_rfl) (fun _ _ _ h => h) (Or.inl ⟨by rfl, ?rh6⟩) hHeld ?_
  case rh6 => (intro w hSw; (try dsimp only at hSw); go_simp; try with_reducible rfl)
  refine wpAnyN_take (i := 6) (v := ?rv7) rfl (by kernel_rfl) (by kernel_rfl) (by kernel_rfl) (by kernel_rfl) (by kernel_rfl) (fun _ _ _ h => h) (Or.inl ⟨by rfl, ?rh7⟩) hHeld ?_
  case rh7 => (intro w hSw; (try dsimp only at hSw); go_simp; try with_reducible rfl)
  refine wpAnyN_take (i := 7) (v := ?rv8) rfl (by kernel_rfl) (by kernel_rfl) (by kernel_rfl) (by kernel_rfl) (by kernel_rfl) (fun _ _ _ h => h) (Or.inl ⟨by rfl, ?rh8⟩) hHeld ?_
  case rh8 => (intro w hSw; (try dsimp only at hSw); go_simp; try with_reducible rfl)
  refine wpAnyN_ready (rs := [8]) (by kernel_rfl) (by simp) ?_
  refine AllN.cons rfl (fun K rK9 => ?_) ?_
  · go_simp
    refine hLK4.mono ?_
    rintro en w5 ⟨rfl, hZ5⟩
    dsimp only
    refine rK9.out _ _ (not_early (by kernel_rfl)) ?_
    clear rK9 K
    refine wpAnyN_done (by kernel_rfl) ?_ _
    go_wp2_with fail
    go_end0
    exact ⟨rfl, hZ5⟩
  exact AllN.nil
end Go.Proofs.YtjocbifjmchbcaaGreatDoor
/- The contracts of link.White and link.each. -/
namespace Go.Proofs.YtjocbifjmchbcaaGreatDoor
open Go.RowKit

/-! ### link.White -/
def lwhiteS : List UInt8 := [32, 9, 10]
/-- How much white a text begins with. -/
def lwhiteL (l : List UInt8) : Nat := (l.takeWhile (lwhiteS.contains ·)).length
theorem cut_len (s : ByteArray) : (mkB (cutL lwhiteS s.data.toList)).size + lwhiteL s.data.toList = s.size := by
  rw [mkB_size, ← size_len]
  have := congrArg List.length (List.takeWhile_append_dropWhile (p := (lwhiteS.contains ·)) (l := s.data.toList))
  rw [List.length_append] at this
  unfold cutL lwhiteL; omega
theorem lwhite_le (l : List UInt8) : lwhiteL l ≤ l.length := (List.takeWhile_sublist _).length_le
set_option maxHeartbeats 400000 in
theorem lwhite_any (s : ByteArray) (w : World) (hs : s.size ≤ 1000000) :
    Calls Tryz.prog 189 #[.string s] w fun e w' => e = .returned (.int .i64 (lwhiteL s.data.toList)) ∧ Bl w w' := by
  have HT := Tryz.strings_TrimLeft_set s ⟨#[32, 9, 10]⟩ w (by decide) (fun j b hj => by
    match j, hj with
    | 0, hj => cases hj; decide
    | 1, hj => cases hj; decide
    | 2, hj => cases hj; decide
    | j + 3, hj => cases hj)
  have hL := cut_len s
  obtain ⟨R, hR⟩ : ∃ R, mkB (cutL lwhiteS s.data.toList) = R := ⟨_, rfl⟩
  rw [hR] at hL
  have HT : Calls Tryz.prog 242 #[.string s, .string ⟨#[32, 9, 10]⟩] w fun e w' => e = .returned (.string R) ∧ Below w.heap.size w w' := by rw [← hR]; exact HT
  have Z := Lib.hid hL
  have hRs : R.size ≤ s.size := by omega
  clear hR hL
  go_enter Tryz.func189, Tryz.ntmps189
  go_wp2_with (first | (go_at_call 242; (with_reducible refine HT.mono ?_); rintro e w' ⟨rfl, hb⟩))
  go_ret
  exact ⟨ret_int (by have := Z.out; omega), ⟨hb⟩⟩

/-! ### link.each -/
def slashB (a b : UInt8) : Bool := (a == 92) && signB b
/-- Goes over the bytes that are not escaped, until a stop: where that is, and what the stopper holds then. -/
def eachGo {σ : Type} (p : σ → UInt8 → Bool) (nx : σ → UInt8 → σ) : List UInt8 → Nat → σ → Nat × σ
  | [], k, x => (k, x)
  | [a], k, x => if p x a then (k, nx x a) else (k + 1, nx x a)
  | a :: b :: t, k, x => if slashB a b then eachGo p nx t (k + 2) x else if p x a then (k, nx x a) else eachGo p nx (b :: t) (k + 1) (nx x a)
/-- A function value that tells when to stop: what it holds is x. -/
structure Stopper {σ : Type} (g : Nat) (cap : Array Value) (I : σ → World → Prop) (p : σ → UInt8 → Bool) (nx : σ → UInt8 → σ) (w0 : World) : Prop where
  step : ∀ x W b, Bl w0 W → I x W → Calls Tryz.prog g (#[.int .u8 (b.toNat : Int)] ++ cap) W fun e W' => e = .returned (.bool (p x b)) ∧ I (nx x b) W' ∧ Bl w0 W'
  more : ∀ x W W', I x W → Bl W W' → I x W'
  enters : ∀ args w, (callFunc g args).run Tryz.prog w = .ok (.enter g args) w
theorem eachGo_nil {σ : Type} (p : σ → UInt8 → Bool) (nx : σ → UInt8 → σ) (k : Nat) (x : σ) : eachGo p nx [] k x = (k, x) := rfl
theorem eachGo_esc {σ : Type} (p : σ → UInt8 → Bool) (nx : σ → UInt8 → σ) (l : List UInt8) (a b : UInt8) (k : Nat) (x : σ) (h0 : l[0]? = some a) (h1 : l[1]? = some b) (h : slashB a b = true) : eachGo p nx l k x = eachGo p nx (l.drop 2) (k + 2) x := by
  match l, h0, h1 with
  | c :: d :: t, h0, h1 =>
    cases h0; cases h1
    rw [eachGo, if_pos h]; rfl
theorem eachGo_byte {σ : Type} (p : σ → UInt8 → Bool) (nx : σ → UInt8 → σ) (l : List UInt8) (a : UInt8) (k : Nat) (x : σ) (h0 : l[0]? = some a) (h1 : ∀ b, l[1]? = some b → slashB a b = false) : eachGo p nx l k x = if p x a then (k, nx x a) else eachGo p nx (l.drop 1) (k + 1) (nx x a) := by
  match l, h0, h1 with
  | [c], h0, h1 => cases h0; rfl
  | c :: d :: t, h0, h1 =>
    cases h0
    rw [eachGo, if_neg (by rw [h1 d rfl]; decide)]; rfl

set_option maxRecDepth 100000 in
set_option maxHeartbeats 4000000 in
theorem each_any {σ : Type} (s : ByteArray) (m g : Nat) (cap : Array Value) (I : σ → World → Prop) (p : σ → UInt8 → Bool) (nx : σ → UInt8 → σ) (w0 w : World) (x0 : σ) (hs : s.size ≤ 1000000) (hm : m ≤ s.size) (hb0 : Bl w0 w) (hS : Stopper g cap I p nx w0) (hI : I x0 w) :
    Calls Tryz.prog 192 #[.string s, .int .i64 m, .func (.func g) #[] cap] w fun e w' => e = .returned (.int .i64 (eachGo p nx (s.data.toList.drop m) m x0).1) ∧ I (eachGo p nx (s.data.toList.drop m) m x0).2 w' ∧ Bl w0 w' := by
  have eg := hS.enters
  go_enter Tryz.func192, Tryz.ntmps192
  go_wp2
  go_loopw [7] (fun i wr => ∃ (k : Nat) (x : σ), k ≤ s.size ∧ i = .int .i64 k ∧ Bl w0 wr ∧ I x wr ∧ Hid (eachGo p nx (s.data.toList.drop m) m x0 = eachGo p nx (s.data.toList.drop k) k x)) (fun i _ => s.size - (intOf i).toNat)
  case atStart => exact ⟨m, x0, hm, rfl, hb0, hI, Lib.hid rfl⟩
  case round =>
    obtain ⟨k, x, hk, rfl, hb, hIx, hrel⟩ := hrel
    by_cases hlt : k < s.size
    · have dl : decide (k < s.size) = true := decide_eq_true hlt
      have AT : (s.data.toList.drop k)[0]? = some s[k] := by rw [List.getElem?_drop]; exact at_some s k hlt
      have E92 := eq_of_byte (b := s[k]) (c := 92) 92 rfl
      cases h92 : ((s[k].toNat : Int) == 92) with
      | false =>
        rw [h92] at E92
        have E := Lib.hid E92
        clear E92
        have B0 := eachGo_byte p nx (s.data.toList.drop k) s[k] k x AT (fun b hb => by unfold slashB; rw [← E.out]; rfl)
        rw [List.drop_drop] at B0
        obtain ⟨st, hst⟩ : ∃ st, p x s[k] = st := ⟨_, rfl⟩
        have HSt := fun W (h1 : Bl w0 W) (h2 : I x W) => hS.step x W s[k] h1 h2
        rw [hst] at HSt B0
        clear hst
        have B0 := Lib.hid B0
        cases st with
        | true =>
          have R := Lib.hid (show eachGo p nx (s.data.toList.drop m) m x0 = (k, nx x s[k]) from hrel.out.trans B0.out)
          have HX := HSt wr hb hIx
          clear HSt
          go_wp2_with (first | (go_at_fn g; (with_reducible refine HX.mono ?_); rintro e w3 ⟨rfl, hI3, hb3⟩))
          go_ret
          rw [R.out]
          exact ⟨rfl, hI3, hb3⟩
        | false =>
          have H := Lib.hid (show eachGo p nx (s.data.toList.drop m) m x0 = eachGo p nx (s.data.toList.drop (k + 1)) (k + 1) (nx x s[k]) from hrel.out.trans B0.out)
          have HX := HSt wr hb hIx
          clear HSt
          go_wp2_with (first | (go_at_fn g; (with_reducible refine HX.mono ?_); rintro e w3 ⟨rfl, hI3, hb3⟩))
          go_roundw
          case rel => exact ⟨k + 1, _, by omega, by go_num, hb3, hI3, H⟩
          case measure => simp [intOf]; omega
      | true =>
        rw [h92] at E92
        have E := Lib.hid E92
        clear E92
        by_cases h1 : k + 1 < s.size
        · have d1 : decide ((k : Int) + 1 < (s.size : Int)) = true := decide_eq_true (by omega)
          have AT1 : (s.data.toList.drop k)[1]? = some s[k + 1] := by rw [List.getElem?_drop]; exact at_some s (k + 1) h1
          have HSg := fun W => sign_any s[k + 1] W
          obtain ⟨sg, hsg⟩ : ∃ sg, signB s[k + 1] = sg := ⟨_, rfl⟩
          rw [hsg] at HSg
          have G := Lib.hid hsg
          clear hsg
          cases sg with
          | true =>
            have B0 := eachGo_esc p nx (s.data.toList.drop k) s[k] s[k + 1] k x AT AT1 (by unfold slashB; rw [← E.out, G.out]; rfl)
            rw [List.drop_drop] at B0
            have H := Lib.hid (show eachGo p nx (s.data.toList.drop m) m x0 = eachGo p nx (s.data.toList.drop (k + 2)) (k + 2) x from hrel.out.trans B0)
            clear B0
            go_wp2_with fail
            refine (HSg _).mono ?_
            rintro e w2 ⟨rfl, hb2⟩
            have hI2 := hS.more _ _ _ hIx hb2
            go_wp2
            go_roundw
            case rel => exact ⟨k + 2, _, by omega, by go_num, hb.trans hb2, hI2, H⟩
            case measure => simp [intOf]; omega
          | false =>
            have B0 := eachGo_byte p nx (s.data.toList.drop k) s[k] k x AT (fun b hb => by unfold slashB; rw [Option.some.inj (hb.symm.trans AT1), G.out, Bool.and_false])
            rw [List.drop_drop] at B0
            obtain ⟨st, hst⟩ : ∃ st, p x s[k] = st := ⟨_, rfl⟩
            have HSt := fun W (h1 : Bl w0 W) (h2 : I x W) => hS.step x W s[k] h1 h2
            rw [hst] at HSt B0
            clear hst
            have B0 := Lib.hid B0
            cases st with
            | true =>
              have R := Lib.hid (show eachGo p nx (s.data.toList.drop m) m x0 = (k, nx x s[k]) from hrel.out.trans B0.out)
              go_wp2_with fail
              refine (HSg _).mono ?_
              rintro e w2 ⟨rfl, hb2⟩
              have HX := HSt w2 (hb.trans hb2) (hS.more _ _ _ hIx hb2)
              clear HSt
              go_wp2_with (first | (go_at_fn g; (with_reducible refine HX.mono ?_); rintro e w3 ⟨rfl, hI3, hb3⟩))
              go_ret
              rw [R.out]
              exact ⟨rfl, hI3, hb3⟩
            | false =>
              have H := Lib.hid (show eachGo p nx (s.data.toList.drop m) m x0 = eachGo p nx (s.data.toList.drop (k + 1)) (k + 1) (nx x s[k]) from hrel.out.trans B0.out)
              go_wp2_with fail
              refine (HSg _).mono ?_
              rintro e w2 ⟨rfl, hb2⟩
              have HX := HSt w2 (hb.trans hb2) (hS.more _ _ _ hIx hb2)
              clear HSt
              go_wp2_with (first | (go_at_fn g; (with_reducible refine HX.mono ?_); rintro e w3 ⟨rfl, hI3, hb3⟩))
              go_roundw
              case rel => exact ⟨k + 1, _, by omega, by go_num, hb3, hI3, H⟩
              case measure => simp [intOf]; omega
        · have d1 : decide ((k : Int) + 1 < (s.size : Int)) = false := decide_eq_false (by omega)
          have AT1 : (s.data.toList.drop k)[1]? = none := by rw [List.getElem?_drop]; exact at_none s (k + 1) h1
          have B0 := eachGo_byte p nx (s.data.toList.drop k) s[k] k x AT (fun b hb => by rw [AT1] at hb; cases hb)
          rw [List.drop_drop] at B0
          obtain ⟨st, hst⟩ : ∃ st, p x s[k] = st := ⟨_, rfl⟩
          have HSt := fun W (h1 : Bl w0 W) (h2 : I x W) => hS.step x W s[k] h1 h2
          rw [hst] at HSt B0
          clear hst
          have B0 := Lib.hid B0
          cases st with
          | true =>
            have R := Lib.hid (show eachGo p nx (s.data.toList.drop m) m x0 = (k, nx x s[k]) from hrel.out.trans B0.out)
            have HX := HSt wr hb hIx
            clear HSt
            go_wp2_with (first | (go_at_fn g; (with_reducible refine HX.mono ?_); rintro e w3 ⟨rfl, hI3, hb3⟩))
            go_ret
            rw [R.out]
            exact ⟨rfl, hI3, hb3⟩
          | false =>
            have H := Lib.hid (show eachGo p nx (s.data.toList.drop m) m x0 = eachGo p nx (s.data.toList.drop (k + 1)) (k + 1) (nx x s[k]) from hrel.out.trans B0.out)
            have HX := HSt wr hb hIx
            clear HSt
            go_wp2_with (first | (go_at_fn g; (with_reducible refine HX.mono ?_); rintro e w3 ⟨rfl, hI3, hb3⟩))
            go_roundw
            case rel => exact ⟨k + 1, _, by omega, by go_num, hb3, hI3, H⟩
            case measure => simp [intOf]; omega
    · obtain rfl : k = s.size := by omega
      have dl : decide (s.size < s.size) = false := decide_eq_false (by omega)
      have R := Lib.hid (show eachGo p nx (s.data.toList.drop m) m x0 = (s.size, x) by rw [hrel.out, List.drop_of_length_le (by rw [size_len]; exact Nat.le_refl _)]; rfl)
      go_wp2
      go_ret
      rw [R.out]
      exact ⟨rfl, hIx, hb⟩

end Go.Proofs.YtjocbifjmchbcaaGreatDoor
/- link's words, in plain words; ent is what a reference is read as. -/
namespace Go.Proofs.YtjocbifjmchbcaaGreatDoor

/-- Does a byte stand ahead of one that it may escape? -/
def escB (a : UInt8) : List UInt8 → Bool
  | b :: _ => slashB a b
  | [] => false
/-- A text without backslashes and references. -/
def unescGo (ent : List UInt8 → List UInt8 × Nat) : Nat → List UInt8 → List UInt8
  | 0, _ => []
  | _ + 1, [] => []
  | f + 1, a :: t =>
    if escB a t then t.take 1 ++ unescGo ent f (t.drop 1)
    else if a == 38 && decide (0 < (ent (a :: t)).2) then (ent (a :: t)).1 ++ unescGo ent f ((a :: t).drop (ent (a :: t)).2)
    else a :: unescGo ent f t
def unescL (ent : List UInt8 → List UInt8 × Nat) (l : List UInt8) : List UInt8 := unescGo ent l.length l
/-- What stands in brackets, and how long all of it is. -/
def labelL (l : List UInt8) : List UInt8 × Nat :=
  if l.headD 0 == 91 then
    let k := (eachGo (fun (_ : Unit) b => b == 91 || b == 93) (fun _ _ => ()) (l.drop 1) 1 ()).1
    if k == l.length || l.getD k 0 == 91 || decide (999 < k - 1) || lwhiteL ((l.take k).drop 1) == k - 1 then ([], 0) else ((l.take k).drop 1, k + 1)
  else ([], 0)
def angledL (ent : List UInt8 → List UInt8 × Nat) (l : List UInt8) : List UInt8 × Nat × Bool :=
  let k := (eachGo (fun (_ : Unit) b => b == 60 || b == 62 || b == 10) (fun _ _ => ()) (l.drop 1) 1 ()).1
  if k == l.length || l.getD k 0 != 62 then ([], 0, false) else (unescL ent ((l.take k).drop 1), k + 1, true)
def destP (x : Int × Bool) (b : UInt8) : Bool := decide ((b.toNat : Int) ≤ 32) || (b.toNat : Int) == 127 || ((b.toNat : Int) == 41 && x.1 == 0)
def destN (x : Int × Bool) (b : UInt8) : Int × Bool := if destP x b then x else if (b.toNat : Int) == 41 then (Go.RowKit.wrap64 (x.1 - 1), x.2) else if (b.toNat : Int) == 40 then (Go.RowKit.wrap64 (x.1 + 1), x.2 || decide (32 < Go.RowKit.wrap64 (x.1 + 1))) else x
/-- An address, how long it is, and whether it is one. -/
def destL (ent : List UInt8 → List UInt8 × Nat) (l : List UInt8) : List UInt8 × Nat × Bool :=
  if l.headD 0 == 60 then angledL ent l
  else
    let r := eachGo destP destN l 0 (0, false)
    if r.1 == 0 || decide (0 < r.2.1) || r.2.2 then ([], 0, false) else (unescL ent (l.take r.1), r.1, true)
def closingL (l : List UInt8) : UInt8 := if l.headD 0 == 34 || l.headD 0 == 39 then l.headD 0 else if l.headD 0 == 40 then 41 else 0
/-- Has a text a line of blanks alone, other than its first and last? -/
def gapL (l : List UInt8) : Bool := ((Lib.split l [10]).drop 1).dropLast.any fun x => (Lib.trimS x [32, 9]).isEmpty
def titleL (ent : List UInt8 → List UInt8 × Nat) (l : List UInt8) : List UInt8 × Nat :=
  let e := closingL l
  if e == 0 then ([], 0)
  else
    let k := (eachGo (fun (_ : Unit) b => b == e || (b == 40 && e == 41)) (fun _ _ => ()) (l.drop 1) 1 ()).1
    if k == l.length || l.getD k 0 != e || gapL ((l.take k).drop 1) then ([], 0) else (unescL ent ((l.take k).drop 1), k + 1)
/-- An address and a title in parentheses, and how long all of it is. -/
def tailL (ent : List UInt8 → List UInt8 × Nat) (l : List UInt8) : List UInt8 × List UInt8 × Nat :=
  if l.headD 0 == 40 then
    let at1 := 1 + lwhiteL (l.drop 1)
    let d := destL ent (l.drop at1)
    let at2 := at1 + d.2.1
    let w := lwhiteL (l.drop at2)
    let t := if 0 < d.2.1 ∧ 0 < w then titleL ent (l.drop (at2 + w)) else ([], 0)
    let at3 := if 0 < t.2 then at2 + w + t.2 else at2
    let at4 := at3 + lwhiteL (l.drop at3)
    if (l.drop at4).headD 0 == 41 then (d.1, (if 0 < t.2 then t.1 else []), at4 + 1) else ([], [], 0)
  else ([], [], 0)
end Go.Proofs.YtjocbifjmchbcaaGreatDoor
/- The contract of escape.Unescape. -/
namespace Go.Proofs.YtjocbifjmchbcaaGreatDoor
open Go.RowKit

/-- How a reference is read, at a text. -/
def EntAt (ent : List UInt8 → List UInt8 × Nat) (w0 : World) (l : List UInt8) : Prop := (∀ W, Bl w0 W → Calls Tryz.prog 66 #[.string (mkB l)] W fun e w' => e = .returned (.tuple #[.string (mkB (ent l).1), .int .i64 ((ent l).2 : Int)]) ∧ Bl W w') ∧ (ent l).1.length ≤ 8 ∧ (ent l).2 ≤ l.length
theorem drop_some {α : Type} {l : List α} {k : Nat} {x : α} (h : l[k]? = some x) : l.drop k = x :: l.drop (k + 1) := by
  have hlt := (List.getElem?_eq_some_iff.1 h).1
  rw [List.drop_eq_getElem_cons hlt]
  congr 1
  have := List.getElem?_eq_getElem hlt
  rw [h] at this; exact (Option.some.inj this).symm
theorem unesc_slash (ent : List UInt8 → List UInt8 × Nat) (f : Nat) (a b : UInt8) (t : List UInt8) (h : slashB a b = true) : unescGo ent (f + 1) (a :: b :: t) = b :: unescGo ent f t := by
  rw [unescGo, if_pos (show escB a (b :: t) = true from h)]; rfl
theorem unesc_ent (ent : List UInt8 → List UInt8 × Nat) (f : Nat) (t : List UInt8) (h : (ent (38 :: t)).2 > 0) : unescGo ent (f + 1) (38 :: t) = (ent (38 :: t)).1 ++ unescGo ent f ((38 :: t).drop (ent (38 :: t)).2) := by
  have h1 : escB 38 t = false := by cases t <;> rfl
  rw [unescGo, h1, if_neg (by decide), if_pos (by simp; exact h)]
theorem unesc_byte (ent : List UInt8 → List UInt8 × Nat) (f : Nat) (a : UInt8) (t : List UInt8) (h1 : ∀ b u, t = b :: u → slashB a b = false) (h2 : a ≠ 38 ∨ (ent (a :: t)).2 = 0) : unescGo ent (f + 1) (a :: t) = a :: unescGo ent f t := by
  have h3 : escB a t = false := by
    cases t with
    | nil => rfl
    | cons b u => exact h1 b u rfl
  rw [unescGo, h3, if_neg (by decide), if_neg (by
    simp
    rintro rfl
    rcases h2 with h | h
    · exact absurd rfl h
    · omega)]
set_option maxRecDepth 100000 in
set_option maxHeartbeats 4000000 in
theorem unescape_any (ent : List UInt8 → List UInt8 × Nat) (s : ByteArray) (w : World) (hs : s.size ≤ 1000000) (hE : ∀ i, (s.data.toList.drop i).headD 0 = 38 → EntAt ent w (s.data.toList.drop i)) :
    Calls Tryz.prog 245 #[.string s] w fun e w' => e = .returned (.string (mkB (unescL ent s.data.toList))) ∧ Bl w w' := by
  obtain ⟨R, hRd⟩ : ∃ R, unescL ent s.data.toList = R := ⟨_, rfl⟩
  rw [hRd]
  have hRd := Lib.hid hRd
  have hB := Bd.new (Bl.refl w)
  go_enter Tryz.func245, Tryz.ntmps245
  go_wp2_with fail
  go_loopw [0] (fun v0 wr => ∃ (k f : Nat) (ac : List UInt8) (T : ByteArray), k + T.size = s.size ∧ T.size ≤ f ∧ ac.length ≤ 8 * k ∧ v0 = .string T ∧ T.data.toList = s.data.toList.drop k ∧ Bd w wr w.heap.size ac ∧ Hid (ac ++ unescGo ent f T.data.toList = R)) (fun v0 _ => match v0 with | .string T => T.size | _ => 0)
  case atStart => exact ⟨0, s.size, [], s, by omega, Nat.le_refl _, by simp, rfl, by simp, hB, Lib.hid (by rw [← hRd.out]; unfold unescL; rw [size_len]; rfl)⟩
  case round =>
    obtain ⟨k, f, ac, T, hk, hf, hac, rfl, hTd, hBr, hrel⟩ := hrel
    by_cases h0 : 0 < T.size
    · have hne := isEmpty_false h0
      obtain ⟨f, rfl⟩ : ∃ g, f = g + 1 := ⟨f - 1, by omega⟩
      have hm := drop_some (at_some T 0 h0)
      rw [List.drop_zero] at hm
      have hlen := size_len T
      have hb92 := eq_of_byte (b := T[0]) (c := 92) 92 rfl
      have hb38 := eq_of_byte (b := T[0]) (c := 38) 38 rfl
      have i0 : (1 : Int) ≤ (T.size : Int) := by omega
      have i1 : (0 : Int) < (T.size : Int) := by omega
      have hx1 : (T.extract 0 1).data.toList = [T[0]] := by rw [Lib.extract_data, List.drop_zero, Nat.sub_zero, hm]; rfl
      have hx2 : (T.extract 1 T.size).data.toList = T.data.toList.drop 1 := by
        rw [Lib.extract_data]; exact List.take_of_length_le (by rw [List.length_drop, hlen]; exact Nat.le_refl _)
      have hx1s : (T.extract 0 1).size = 1 := by rw [← size_len, hx1]; rfl
      have hx2s : (T.extract 1 T.size).size = T.size - 1 := by rw [← size_len, hx2, List.length_drop, hlen]
      -- one byte as it stands
      have one : (∀ b u, T.data.toList.drop 1 = b :: u → slashB T[0] b = false) → (T[0] ≠ 38 ∨ (ent T.data.toList).2 = 0) → ∀ (W : World), Bd w W w.heap.size ac →
          Calls Tryz.prog 59 #[.pointer (some ⟨w.heap.size, 0, none⟩), .string (T.extract 0 1)] W fun e w' => e = .returned (.tuple #[.int .i64 (T.extract 0 1).size, .nilIface]) ∧ Bd w w' w.heap.size (ac ++ [T[0]]) ∧
            (k + 1) + (T.extract 1 T.size).size = s.size ∧ (T.extract 1 T.size).size ≤ f ∧ (ac ++ [T[0]]).length ≤ 8 * (k + 1) ∧ (T.extract 1 T.size).data.toList = s.data.toList.drop (k + 1) ∧ Hid ((ac ++ [T[0]]) ++ unescGo ent f (T.extract 1 T.size).data.toList = R) := by
        intro h1 h2 W hW
        refine (bstr_any w W w.heap.size ac (T.extract 0 1) hW (by omega)).mono ?_
        rintro e w' ⟨rfl, hB', _⟩
        rw [hx1] at hB'
        refine ⟨rfl, hB', by omega, by omega, by simp; omega, by rw [hx2, hTd, List.drop_drop], Lib.hid ?_⟩
        have := hrel.out
        rw [hm] at this
        rw [unesc_byte ent f T[0] (T.data.toList.drop 1) h1 (by rw [← hm]; exact h2)] at this
        rw [hx2, ← this]; simp
      cases hc92 : ((T[0].toNat : Int) == 92) with
      | true =>
        have h92 : T[0] = 92 := by rw [hc92] at hb92; simpa using hb92.symm
        by_cases h1 : 1 < T.size
        · have d1 : decide ((1 : Int) < (T.size : Int)) = true := decide_eq_true (by omega)
          have j1 : (1 : Int) < (T.size : Int) := by omega
          have j2 : (2 : Int) ≤ (T.size : Int) := by omega
          have hm2 := drop_some (at_some T 1 h1)
          have HSg := fun W => sign_any T[1] W
          cases hsg : signB T[1] with
          | true =>
            rw [hsg] at HSg
            have hy1 : (T.extract 1 2).data.toList = [T[1]] := by rw [Lib.extract_data, hm2]; rfl
            have hy2 : (T.extract 2 T.size).data.toList = T.data.toList.drop 2 := by
              rw [Lib.extract_data]; exact List.take_of_length_le (by rw [List.length_drop, hlen]; exact Nat.le_refl _)
            have hy1s : (T.extract 1 2).size = 1 := by rw [← size_len, hy1]; rfl
            have hy2s : (T.extract 2 T.size).size = T.size - 2 := by rw [← size_len, hy2, List.length_drop, hlen]
            have two : ∀ (W : World), Bd w W w.heap.size ac → Calls Tryz.prog 59 #[.pointer (some ⟨w.heap.size, 0, none⟩), .string (T.extract 1 2)] W fun e w' => e = .returned (.tuple #[.int .i64 (T.extract 1 2).size, .nilIface]) ∧ Bd w w' w.heap.size (ac ++ [T[1]]) ∧
                (k + 2) + (T.extract 2 T.size).size = s.size ∧ (T.extract 2 T.size).size ≤ f ∧ (ac ++ [T[1]]).length ≤ 8 * (k + 2) ∧ (T.extract 2 T.size).data.toList = s.data.toList.drop (k + 2) ∧ Hid ((ac ++ [T[1]]) ++ unescGo ent f (T.extract 2 T.size).data.toList = R) := by
              intro W hW
              refine (bstr_any w W w.heap.size ac (T.extract 1 2) hW (by omega)).mono ?_
              rintro e w' ⟨rfl, hB', _⟩
              rw [hy1] at hB'
              refine ⟨rfl, hB', by omega, by omega, by simp; omega, by rw [hy2, hTd, List.drop_drop], Lib.hid ?_⟩
              have := hrel.out
              rw [hm, hm2, unesc_slash ent f _ _ _ (by unfold slashB; rw [h92, hsg]; rfl)] at this
              rw [hy2, ← this]; simp
            clear one hrel hm hm2 hx1 hx2 hx1s hx2s hy1 hy2 hy1s hb92 hb38 hlen hTd hsg h92
            have HY := Lib.hid hy2s
            clear hy2s
            go_wp2_with fail
            refine (HSg _).mono ?_
            rintro e w2 ⟨rfl, hb2⟩
            go_wp2_with fail
            refine (two w2 (hBr.more hb2)).mono ?_
            rintro e w3 ⟨rfl, hB3, q1, q2, q3, q4, q5⟩
            dsimp only
            go_wp2_with fail
            go_roundw
            case rel => exact ⟨k + 2, f, _, _, q1, q2, q3, rfl, q4, hB3, q5⟩
            case measure => dsimp only; have := HY.out; omega
          | false =>
            rw [hsg] at HSg
            have ONE := one (fun b u hbu => by rw [hm2] at hbu; cases hbu; unfold slashB; rw [hsg, Bool.and_false]) (.inl (by rw [h92]; decide))
            have c38 : ((T[0].toNat : Int) == 38) = false := by rw [hb38, h92]; rfl
            clear one hrel hm hm2 hx1 hx2 hx1s hb92 hb38 hlen hTd hsg h92
            have HY := Lib.hid hx2s
            clear hx2s
            go_wp2_with fail
            refine (HSg _).mono ?_
            rintro e w2 ⟨rfl, hb2⟩
            go_wp2_with fail
            refine (ONE w2 (hBr.more hb2)).mono ?_
            rintro e w3 ⟨rfl, hB3, q1, q2, q3, q4, q5⟩
            dsimp only
            go_wp2_with fail
            go_roundw
            case rel => exact ⟨k + 1, f, _, _, q1, q2, q3, rfl, q4, hB3, q5⟩
            case measure => dsimp only; have := HY.out; omega
        · have d1 : decide ((1 : Int) < (T.size : Int)) = false := decide_eq_false (by omega)
          have ONE := one (fun b u hbu => by
            have := congrArg List.length hbu
            rw [List.length_drop, hlen] at this
            simp at this; omega) (.inl (by rw [h92]; decide))
          have c38 : ((T[0].toNat : Int) == 38) = false := by rw [hb38, h92]; rfl
          clear one hrel hm hx1 hx2 hx1s hb92 hb38 hlen hTd h92
          have HY := Lib.hid hx2s
          clear hx2s
          go_wp2_with fail
          refine (ONE wr hBr).mono ?_
          rintro e w3 ⟨rfl, hB3, q1, q2, q3, q4, q5⟩
          dsimp only
          go_wp2_with fail
          go_roundw
          case rel => exact ⟨k + 1, f, _, _, q1, q2, q3, rfl, q4, hB3, q5⟩
          case measure => dsimp only; have := HY.out; omega
      | false =>
        have hns : ∀ b u, T.data.toList.drop 1 = b :: u → slashB T[0] b = false := fun b u _ => by
          unfold slashB; rw [← hb92, hc92]; rfl
        cases hc38 : ((T[0].toNat : Int) == 38) with
        | false =>
          have ONE := one hns (.inl (by intro e; rw [hb38, e] at hc38; cases hc38))
          clear one hrel hm hx1 hx2 hx1s hb92 hb38 hlen hTd hns
          have HY := Lib.hid hx2s
          clear hx2s
          go_wp2_with fail
          refine (ONE wr hBr).mono ?_
          rintro e w3 ⟨rfl, hB3, q1, q2, q3, q4, q5⟩
          dsimp only
          go_wp2_with fail
          go_roundw
          case rel => exact ⟨k + 1, f, _, _, q1, q2, q3, rfl, q4, hB3, q5⟩
          case measure => dsimp only; have := HY.out; omega
        | true =>
          have h38 : T[0] = 38 := by rw [hc38] at hb38; simpa using hb38.symm
          have hEnt := hE k (by rw [← hTd, hm, h38]; rfl)
          rw [← hTd] at hEnt
          obtain ⟨hRead, hl8, hle⟩ := hEnt
          rw [mkB_self, hlen] at *
          obtain ⟨n, hn⟩ : ∃ n, (ent T.data.toList).2 = n := ⟨_, rfl⟩
          obtain ⟨E, hEe⟩ : ∃ E, (ent T.data.toList).1 = E := ⟨_, rfl⟩
          rw [hn, hEe] at hRead
          rw [hEe] at hl8
          rw [hn] at hle
          have hRd2 := hRead wr hBr.bl
          by_cases hn0 : 0 < n
          · have dn : decide ((0 : Int) < (n : Int)) = true := decide_eq_true (by omega)
            have j1 : (n : Int) ≤ (T.size : Int) := by omega
            have hy2 : (T.extract n T.size).data.toList = T.data.toList.drop n := by
              rw [Lib.extract_data]; exact List.take_of_length_le (by rw [List.length_drop, size_len]; exact Nat.le_refl _)
            have hy2s : (T.extract n T.size).size = T.size - n := by rw [← size_len, hy2, List.length_drop, size_len]
            have two : ∀ (W : World), Bd w W w.heap.size ac → Calls Tryz.prog 59 #[.pointer (some ⟨w.heap.size, 0, none⟩), .string (mkB E)] W fun e w' => e = .returned (.tuple #[.int .i64 (mkB E).size, .nilIface]) ∧ Bd w w' w.heap.size (ac ++ E) ∧
                (k + n) + (T.extract n T.size).size = s.size ∧ (T.extract n T.size).size ≤ f ∧ (ac ++ E).length ≤ 8 * (k + n) ∧ (T.extract n T.size).data.toList = s.data.toList.drop (k + n) ∧ Hid ((ac ++ E) ++ unescGo ent f (T.extract n T.size).data.toList = R) := by
              intro W hW
              refine (bstr_any w W w.heap.size ac (mkB E) hW (by rw [mkB_size]; omega)).mono ?_
              rintro e w' ⟨rfl, hB', _⟩
              rw [mkB_data] at hB'
              refine ⟨rfl, hB', by omega, by omega, by simp; omega, by rw [hy2, hTd, List.drop_drop], Lib.hid ?_⟩
              have := hrel.out
              have hm38 : T.data.toList = 38 :: T.data.toList.drop 1 := by rw [← h38]; exact hm
              have hu := unesc_ent ent f (T.data.toList.drop 1) (by rw [← hm38, hn]; exact hn0)
              rw [← hm38, hn, hEe] at hu
              rw [hu] at this
              rw [hy2, ← this]; simp
            clear one hrel hm hx1 hx2 hx1s hx2s hb92 hb38 hlen hTd hns hy2 hn hEe h38
            have HY := Lib.hid hy2s
            clear hy2s
            go_wp2_with fail
            refine hRd2.mono ?_
            rintro e w2 ⟨rfl, hb2⟩
            go_wp2_with fail
            refine (two w2 (hBr.more hb2)).mono ?_
            rintro e w3 ⟨rfl, hB3, q1, q2, q3, q4, q5⟩
            dsimp only
            go_wp2_with fail
            go_roundw
            case rel => exact ⟨k + n, f, _, _, q1, q2, q3, rfl, q4, hB3, q5⟩
            case measure => dsimp only; have := HY.out; omega
          · obtain rfl : n = 0 := by omega
            have ONE := one hns (.inr hn)
            clear one hrel hm hx1 hx2 hx1s hb92 hb38 hlen hTd hns hn hEe h38
            have HY := Lib.hid hx2s
            clear hx2s
            go_wp2_with fail
            refine hRd2.mono ?_
            rintro e w2 ⟨rfl, hb2⟩
            go_wp2_with fail
            refine (ONE w2 (hBr.more hb2)).mono ?_
            rintro e w3 ⟨rfl, hB3, q1, q2, q3, q4, q5⟩
            dsimp only
            go_wp2_with fail
            go_roundw
            case rel => exact ⟨k + 1, f, _, _, q1, q2, q3, rfl, q4, hB3, q5⟩
            case measure => dsimp only; have := HY.out; omega
    · obtain rfl : ac = R := by
        have := hrel.out
        have h1 : T.data.toList = [] := List.length_eq_zero_iff.1 (by rw [size_len]; omega)
        rw [h1] at this
        rw [← this]
        cases f <;> simp [unescGo]
      have hem : T.toList.isEmpty = true := by
        rw [toList_eq, List.length_eq_zero_iff.1 (show T.data.toList.length = 0 by rw [size_len]; omega)]; rfl
      clear hrel hRd
      go_wp2_with fail
      refine (bstring_any w wr _ _ hBr).mono ?_
      rintro e w2 ⟨rfl, hB2, _⟩
      dsimp only
      go_wp2_with fail
      go_ret
      exact ⟨rfl, hB2.bl⟩
end Go.Proofs.YtjocbifjmchbcaaGreatDoor
/- The contract of link.Dest. -/
namespace Go.Proofs.YtjocbifjmchbcaaGreatDoor
open Go.RowKit

/-- What Dest's stopper holds. -/
structure DestI (ob db : Nat) (x : Int × Bool) (W : World) : Prop where
  o : W.heap[ob]? = some (.cells #[.int .i64 x.1] 3 (0, 0))
  d : W.heap[db]? = some (.cells #[.bool x.2] 4 (0, 0))
set_option maxRecDepth 100000 in
set_option maxHeartbeats 4000000 in
theorem dest1_any (w0 W : World) (ob db : Nat) (x : Int × Bool) (b : UInt8) (hb : Bl w0 W) (hI : DestI ob db x W) (ho : w0.heap.size ≤ ob) (hd : w0.heap.size ≤ db) :
    Calls Tryz.prog 244 #[.int .u8 (b.toNat : Int), .pointer (some ⟨ob, 0, none⟩), .pointer (some ⟨db, 0, none⟩)] W fun e W' => e = .returned (.bool (destP x b)) ∧ DestI ob db (destN x b) W' ∧ Bl w0 W' := by
  obtain ⟨x1, x2⟩ := x
  have o0 : W.cell? ⟨ob, 0, none⟩ = some (.int .i64 x1) := by rw [Lib.cell_of_heap hI.o]; rfl
  have oz : W.frozen? ⟨ob, 0, none⟩ = false := Lib.frozen_of_heap hI.o 0
  have d0 : W.cell? ⟨db, 0, none⟩ = some (.bool x2) := by rw [Lib.cell_of_heap hI.d]; rfl
  have dz : W.frozen? ⟨db, 0, none⟩ = false := Lib.frozen_of_heap hI.d 0
  have hne : ob ≠ db := fun e => by have := hI.o; rw [e, hI.d] at this; cases this
  have hset : ∀ y : Int, DestI ob db (y, x2) (W.setCell ⟨ob, 0, none⟩ (.int .i64 y)) ∧ Bl w0 (W.setCell ⟨ob, 0, none⟩ (.int .i64 y)) := fun y =>
    ⟨⟨by simp [World.setCell, Array.getElem?_modify, hI.o], by rw [Below.heap_setCell W ⟨ob, 0, none⟩ _ db (fun e => hne (by dsimp only at e; exact e.symm))]; exact hI.d⟩, hb.grown (grownBy_setCell W ⟨ob, 0, none⟩ _) (fun k hk => by cases hk; exact ho)⟩
  have hset2 : ∀ (y : Int) (z : Bool), DestI ob db (y, z) ((W.setCell ⟨ob, 0, none⟩ (.int .i64 y)).setCell ⟨db, 0, none⟩ (.bool z)) ∧ Bl w0 ((W.setCell ⟨ob, 0, none⟩ (.int .i64 y)).setCell ⟨db, 0, none⟩ (.bool z)) := fun y z => by
    obtain ⟨h1, h2⟩ := hset y
    refine ⟨⟨by rw [Below.heap_setCell _ ⟨db, 0, none⟩ _ ob hne]; exact h1.o, by
      have := h1.d
      simp [World.setCell, Array.getElem?_modify] at this ⊢
      simp [this]⟩, h2.grown (grownBy_setCell _ ⟨db, 0, none⟩ _) (fun k hk => by cases hk; exact hd)⟩
  have hP : destP (x1, x2) b = (decide ((b.toNat : Int) ≤ 32) || (b.toNat : Int) == 127 || ((b.toNat : Int) == 41 && x1 == 0)) := rfl
  have hN : destN (x1, x2) b = if destP (x1, x2) b then (x1, x2) else if (b.toNat : Int) == 41 then (Go.RowKit.wrap64 (x1 - 1), x2) else if (b.toNat : Int) == 40 then (Go.RowKit.wrap64 (x1 + 1), x2 || decide (32 < Go.RowKit.wrap64 (x1 + 1))) else (x1, x2) := rfl
  rw [hN, hP]
  have hI0 := hI
  clear hN hP hI
  obtain ⟨n, hn⟩ : ∃ n : Int, (b.toNat : Int) = n := ⟨_, rfl⟩
  rw [hn]
  clear hn
  cases h32 : decide (n ≤ 32) with
  | true =>
    go_enter Tryz.func244, Tryz.ntmps244
    go_wp2_with fail
    go_ret
    exact ⟨rfl, hI0, hb⟩
  | false =>
    cases h127 : (n == 127) with
    | true =>
      go_enter Tryz.func244, Tryz.ntmps244
      go_wp2_with fail
      go_ret
      exact ⟨rfl, hI0, hb⟩
    | false =>
      cases h41 : (n == 41) with
      | true =>
        cases h0 : (x1 == 0) with
        | true =>
          go_enter Tryz.func244, Tryz.ntmps244
          go_wp2_with fail
          go_ret
          exact ⟨rfl, hI0, hb⟩
        | false =>
          have hs := hset (Go.RowKit.wrap64 (x1 - 1))
          go_enter Tryz.func244, Tryz.ntmps244
          go_wp2_with fail
          go_ret
          exact ⟨rfl, hs.1, hs.2⟩
      | false =>
        cases h40 : (n == 40) with
        | true =>
          cases x2 with
          | true =>
            have hs := hset2 (Go.RowKit.wrap64 (x1 + 1)) true
            go_enter Tryz.func244, Tryz.ntmps244
            go_wp2_with fail
            go_ret
            exact ⟨rfl, hs.1, hs.2⟩
          | false =>
            have hs := hset2 (Go.RowKit.wrap64 (x1 + 1)) (decide (32 < Go.RowKit.wrap64 (x1 + 1)))
            go_enter Tryz.func244, Tryz.ntmps244
            go_wp2_with fail
            go_ret
            exact ⟨rfl, hs.1, hs.2⟩
        | false =>
          go_enter Tryz.func244, Tryz.ntmps244
          go_wp2_with fail
          go_ret
          exact ⟨rfl, hI0, hb⟩
/-- Dest's stopper. -/
theorem dest_stop (w0 : World) (ob db : Nat) (ho : w0.heap.size ≤ ob) (hd : w0.heap.size ≤ db) : Stopper 244 #[.pointer (some ⟨ob, 0, none⟩), .pointer (some ⟨db, 0, none⟩)] (DestI ob db) destP destN w0 :=
  ⟨fun x W b hb hI => dest1_any w0 W ob db x b hb hI ho hd, fun x W W' hI hb => ⟨(hb.block (heap_lt hI.o)).trans hI.o, (hb.block (heap_lt hI.d)).trans hI.d⟩, enters_of Tryz.func244 (by kernel_rfl) rfl⟩
theorem eachGo_le {σ : Type} (p : σ → UInt8 → Bool) (nx : σ → UInt8 → σ) : ∀ (n : Nat) (l : List UInt8) (k : Nat) (x : σ), l.length ≤ n → k ≤ (eachGo p nx l k x).1 ∧ (eachGo p nx l k x).1 ≤ k + l.length
  | _, [], k, x, _ => by rw [eachGo_nil]; simp
  | 0, a :: t, k, x, h => by simp at h
  | n + 1, [a], k, x, h => by
    rw [eachGo]
    split <;> simp
  | n + 1, a :: b :: t, k, x, h => by
    rw [eachGo]
    simp only [List.length_cons] at h ⊢
    split
    · have := eachGo_le p nx n t (k + 2) x (by omega); omega
    · split
      · simp <;> omega
      · have := eachGo_le p nx n (b :: t) (k + 1) (nx x a) (by simp; omega)
        simp only [List.length_cons] at this; omega
set_option maxRecDepth 100000 in
set_option maxHeartbeats 4000000 in
theorem dest_any (ent : List UInt8 → List UInt8 × Nat) (s : ByteArray) (w : World) (hs : s.size ≤ 1000000) (hh : s.data.toList.headD 0 ≠ 60) (hE : ∀ l W, Bl w W → l.headD 0 = 38 → (∃ i k, l = (s.data.toList.take k).drop i) → EntAt ent W l) :
    Calls Tryz.prog 190 #[.string s] w fun e w' => e = .returned (.tuple #[.string (mkB (destL ent s.data.toList).1), .int .i64 ((destL ent s.data.toList).2.1 : Int), .bool (destL ent s.data.toList).2.2]) ∧ Bl w w' := by
  have hpre := fun W => Tryz.strings_HasPrefix s ⟨#[60]⟩ W
  have hp0 : Lib.hasPrefix s.data.toList [60] = false := by
    rw [hasPrefix_one' 60 (by decide)]
    rw [beq_eq_false_iff_ne]; exact hh
  rw [show (⟨#[60]⟩ : ByteArray).data.toList = [60] from rfl, hp0] at hpre
  obtain ⟨r, hr⟩ : ∃ r, eachGo destP destN s.data.toList 0 (0, false) = r := ⟨_, rfl⟩
  have hle := eachGo_le destP destN _ s.data.toList 0 (0, false) (Nat.le_refl _)
  rw [hr, size_len] at hle
  have hD : destL ent s.data.toList = if r.1 == 0 || decide (0 < r.2.1) || r.2.2 then ([], 0, false) else (unescL ent (s.data.toList.take r.1), r.1, true) := by
    unfold destL
    rw [if_neg (by rw [beq_iff_eq]; exact hh), hr]
  rw [hD]
  obtain ⟨k, x1, x2⟩ := r
  dsimp only at hle hD ⊢
  have hEA := fun (W : World) (hW : Bl w W) (hI : DestI w.heap.size (w.heap.size + 1) (0, false) W) => each_any s 0 244 #[.pointer (some ⟨w.heap.size, 0, none⟩), .pointer (some ⟨w.heap.size + 1, 0, none⟩)] (DestI w.heap.size (w.heap.size + 1)) destP destN w W (0, false) hs (Nat.zero_le _) hW (dest_stop w _ _ (Nat.le_refl _) (by omega)) hI
  rw [List.drop_zero, hr] at hEA
  have hX : (s.extract 0 k).data.toList = s.data.toList.take k := by rw [Lib.extract_data, List.drop_zero, Nat.sub_zero]
  have hU : ∀ W, Bl w W → Calls Tryz.prog 245 #[.string (s.extract 0 k)] W fun e w' => e = .returned (.string (mkB (unescL ent (s.data.toList.take k)))) ∧ Bl W w' := fun W hW => by
    have := unescape_any ent (s.extract 0 k) W (by rw [← size_len, hX, List.length_take]; omega) (fun i hi => hE _ W hW hi ⟨i, k, by rw [hX]⟩)
    rw [hX] at this; exact this
  have j1 : (k : Int) ≤ (s.size : Int) := by omega
  have j0 : (0 : Int) ≤ (k : Int) := Int.natCast_nonneg _
  have hk0 : (k == 0) = ((k : Int) == 0) := by rw [Bool.eq_iff_iff]; simp only [beq_iff_eq]; omega
  rw [hk0]
  have K0 := Lib.hid hk0
  clear hk0 hD hp0 hr hX
  have hnewD : DestI w.heap.size (w.heap.size + 1) (0, false) ((w.alloc (.cells #[.int .i64 0] 3)).alloc (.cells #[.bool false] 4)) := by
    refine ⟨?_, ?_⟩
    · rw [((Bl.refl (w.alloc (.cells #[.int .i64 0] 3))).alloc _).block (by simp)]; exact heap_alloc_new w _
    · have := heap_alloc_new (w.alloc (.cells #[.int .i64 0] 3)) (.cells #[.bool false] 4)
      rwa [World.size_alloc] at this
  have hnewB : Bl w ((w.alloc (.cells #[.int .i64 0] 3)).alloc (.cells #[.bool false] 4)) := ((Bl.refl w).alloc _).alloc _
  have hEA2 := hEA _ hnewB hnewD
  clear hEA hnewD
  cases h0 : ((k : Int) == 0) with
  | true =>
    go_enter Tryz.func190, Tryz.ntmps190
    go_wp2_with (first | (go_at_call 34; (with_reducible refine (hpre _).mono ?_); rintro e w' ⟨rfl, hw'⟩; rw [hw']; clear hw'))
    refine hEA2.mono ?_
    rintro e w3 ⟨rfl, hI3, hb3⟩
    dsimp only
    go_wp2_with fail
    go_ret3
    exact ⟨rfl, hb3⟩
  | false =>
    cases h1 : decide (0 < x1) with
    | true =>
      go_enter Tryz.func190, Tryz.ntmps190
      go_wp2_with (first | (go_at_call 34; (with_reducible refine (hpre _).mono ?_); rintro e w' ⟨rfl, hw'⟩; rw [hw']; clear hw'))
      refine hEA2.mono ?_
      rintro e w3 ⟨rfl, hI3, hb3⟩
      dsimp only
      have o0 : w3.cell? ⟨w.heap.size, 0, none⟩ = some (.int .i64 x1) := by rw [Lib.cell_of_heap hI3.o]; rfl
      go_wp2_with fail
      go_ret3
      exact ⟨rfl, hb3⟩
    | false =>
      cases x2 with
      | true =>
        go_enter Tryz.func190, Tryz.ntmps190
        go_wp2_with (first | (go_at_call 34; (with_reducible refine (hpre _).mono ?_); rintro e w' ⟨rfl, hw'⟩; rw [hw']; clear hw'))
        refine hEA2.mono ?_
        rintro e w3 ⟨rfl, hI3, hb3⟩
        dsimp only
        have o0 : w3.cell? ⟨w.heap.size, 0, none⟩ = some (.int .i64 x1) := by rw [Lib.cell_of_heap hI3.o]; rfl
        have d0 : w3.cell? ⟨w.heap.size + 1, 0, none⟩ = some (.bool true) := by rw [Lib.cell_of_heap hI3.d]; rfl
        go_wp2_with fail
        go_ret3
        exact ⟨rfl, hb3⟩
      | false =>
        go_enter Tryz.func190, Tryz.ntmps190
        go_wp2_with (first | (go_at_call 34; (with_reducible refine (hpre _).mono ?_); rintro e w' ⟨rfl, hw'⟩; rw [hw']; clear hw'))
        refine hEA2.mono ?_
        rintro e w3 ⟨rfl, hI3, hb3⟩
        dsimp only
        have o0 : w3.cell? ⟨w.heap.size, 0, none⟩ = some (.int .i64 x1) := by rw [Lib.cell_of_heap hI3.o]; rfl
        have d0 : w3.cell? ⟨w.heap.size + 1, 0, none⟩ = some (.bool false) := by rw [Lib.cell_of_heap hI3.d]; rfl
        go_wp2_with fail
        refine (hU w3 hb3).mono ?_
        rintro e w4 ⟨rfl, hb4⟩
        dsimp only
        go_wp2_with fail
        go_ret3
        exact ⟨rfl, hb3.trans hb4⟩
end Go.Proofs.YtjocbifjmchbcaaGreatDoor
/- The contract of link.Tail, out of those of Dest and Title. -/
namespace Go.Proofs.YtjocbifjmchbcaaGreatDoor
open Go.RowKit

/-- What Dest hands back at a text; and Title. -/
def DestOk (ent : List UInt8 → List UInt8 × Nat) (w : World) (l : List UInt8) : Prop := ∀ W, Bl w W → Calls Tryz.prog 190 #[.string (mkB l)] W fun e w' => e = .returned (.tuple #[.string (mkB (destL ent l).1), .int .i64 ((destL ent l).2.1 : Int), .bool (destL ent l).2.2]) ∧ Bl W w'
def TitleOk (ent : List UInt8 → List UInt8 × Nat) (w : World) (l : List UInt8) : Prop := ∀ W, Bl w W → Calls Tryz.prog 191 #[.string (mkB l)] W fun e w' => e = .returned (.tuple #[.string (mkB (titleL ent l).1), .int .i64 ((titleL ent l).2 : Int)]) ∧ Bl W w'
theorem extract_rest (l : List UInt8) (i : Nat) : (mkB l).extract i (mkB l).size = mkB (l.drop i) := by rw [extract_mk, mkB_size, List.take_length]
theorem angled_le (ent : List UInt8 → List UInt8 × Nat) (l : List UInt8) (h : l ≠ []) : (angledL ent l).2.1 ≤ l.length := by
  have hp : 1 ≤ l.length := List.length_pos_iff.2 h
  have hle := (eachGo_le (fun (_ : Unit) b => b == 60 || b == 62 || b == 10) (fun _ _ => ()) _ (l.drop 1) 1 () (Nat.le_refl _)).2
  unfold angledL
  dsimp only
  rw [List.length_drop] at hle
  obtain ⟨k, hk⟩ : ∃ k, (eachGo (fun (_ : Unit) b => b == 60 || b == 62 || b == 10) (fun _ _ => ()) (l.drop 1) 1 ()).1 = k := ⟨_, rfl⟩
  rw [hk] at hle ⊢
  split
  · simp
  · rename_i h1
    simp at h1 ⊢
    have := h1.1
    omega
theorem dest_le (ent : List UInt8 → List UInt8 × Nat) (l : List UInt8) : (destL ent l).2.1 ≤ l.length := by
  unfold destL
  split
  · rename_i h
    refine angled_le ent l ?_
    rintro rfl
    exact absurd h (by decide)
  · have hle := (eachGo_le destP destN _ l 0 (0, false) (Nat.le_refl _)).2
    dsimp only
    split
    · simp
    · dsimp only; omega
theorem title_le (ent : List UInt8 → List UInt8 × Nat) (l : List UInt8) : (titleL ent l).2 ≤ l.length := by
  unfold titleL
  dsimp only
  split
  · simp
  · rename_i h0
    have hne : l ≠ [] := by
      rintro rfl
      exact h0 (by decide)
    have hp : 1 ≤ l.length := List.length_pos_iff.2 hne
    have hle := (eachGo_le (fun (_ : Unit) b => b == closingL l || (b == 40 && closingL l == 41)) (fun _ _ => ()) _ (l.drop 1) 1 () (Nat.le_refl _)).2
    rw [List.length_drop] at hle
    obtain ⟨k, hk⟩ : ∃ k, (eachGo (fun (_ : Unit) b => b == closingL l || (b == 40 && closingL l == 41)) (fun _ _ => ()) (l.drop 1) 1 ()).1 = k := ⟨_, rfl⟩
    rw [hk] at hle ⊢
    split
    · simp
    · rename_i h1
      simp at h1 ⊢
      have := h1.1.1
      omega
set_option maxRecDepth 100000 in
set_option maxHeartbeats 8000000 in
theorem tail_no (ent : List UInt8 → List UInt8 × Nat) (l : List UInt8) (w : World) (hs : l.length ≤ 1000000) (hD : ∀ i, i ≤ l.length → DestOk ent w (l.drop i)) (hno : ¬ (0 < (destL ent (l.drop (1 + lwhiteL (l.drop 1)))).2.1 ∧ 0 < lwhiteL (l.drop (1 + lwhiteL (l.drop 1) + (destL ent (l.drop (1 + lwhiteL (l.drop 1)))).2.1)))) :
    Calls Tryz.prog 122 #[.string (mkB l)] w fun e w' => e = .returned (.tuple #[.string (mkB (tailL ent l).1), .string (mkB (tailL ent l).2.1), .int .i64 ((tailL ent l).2.2 : Int)]) ∧ Bl w w' := by
  have hpre := fun W => Tryz.strings_HasPrefix (mkB l) ⟨#[40]⟩ W
  rw [show (⟨#[40]⟩ : ByteArray).data.toList = [40] from rfl, mkB_data, hasPrefix_one' 40 (by decide)] at hpre
  cases h40 : (l.headD 0 == 40) with
  | false =>
    have hT : tailL ent l = ([], [], 0) := by unfold tailL; rw [if_neg (by rw [h40]; decide)]
    rw [hT]
    rw [h40] at hpre
    clear hT
    go_enter Tryz.func122, Tryz.ntmps122
    go_wp2_with (first | (go_at_call 34; (with_reducible refine (hpre _).mono ?_); rintro e w' ⟨rfl, hw'⟩; rw [hw']; clear hw'))
    go_ret3
    exact ⟨rfl, Bl.refl w⟩
  | true =>
    rw [h40] at hpre
    have hl1 : 1 ≤ l.length := by
      cases l with
      | nil => exact absurd h40 (by decide)
      | cons => simp
    obtain ⟨n1, hn1⟩ : ∃ n, lwhiteL (l.drop 1) = n := ⟨_, rfl⟩
    have hle1 := lwhite_le (l.drop 1)
    rw [hn1, List.length_drop] at hle1
    obtain ⟨d, hd⟩ : ∃ d, destL ent (l.drop (1 + n1)) = d := ⟨_, rfl⟩
    have hD1 := hD (1 + n1) (by omega)
    have hdle := dest_le ent (l.drop (1 + n1))
    unfold DestOk at hD1
    rw [hd] at hD1 hdle
    rw [List.length_drop] at hdle
    obtain ⟨d1, n2, d3⟩ := d
    dsimp only at hD1 hdle
    obtain ⟨n3, hn3⟩ : ∃ n, lwhiteL (l.drop (1 + n1 + n2)) = n := ⟨_, rfl⟩
    have hle3 := lwhite_le (l.drop (1 + n1 + n2))
    rw [hn3, List.length_drop] at hle3
    have hTail : tailL ent l = (let t := if 0 < n2 ∧ 0 < n3 then titleL ent (l.drop (1 + n1 + n2 + n3)) else ([], 0)
        let at3 := if 0 < t.2 then 1 + n1 + n2 + n3 + t.2 else 1 + n1 + n2
        let at4 := at3 + lwhiteL (l.drop at3)
        if (l.drop at4).headD 0 == 41 then (d1, (if 0 < t.2 then t.1 else []), at4 + 1) else ([], [], 0)) := by
      unfold tailL
      rw [if_pos h40]
      dsimp only
      rw [hn1, hd]
      dsimp only
      rw [hn3]
    rw [hTail]
    clear hTail
    rw [hn1, hd] at hno
    dsimp only at hno
    rw [hn3] at hno
    have hW1 : ∀ W, Calls Tryz.prog 189 #[.string ((mkB l).extract 1 (mkB l).size)] W fun e w' => e = .returned (.int .i64 (n1 : Int)) ∧ Bl W w' := fun W => by
      rw [extract_rest]
      have := lwhite_any (mkB (l.drop 1)) W (by rw [mkB_size, List.length_drop]; omega)
      rw [mkB_data, hn1] at this; exact this
    have hW3 : ∀ W, Calls Tryz.prog 189 #[.string ((mkB l).extract (1 + n1 + n2) (mkB l).size)] W fun e w' => e = .returned (.int .i64 (n3 : Int)) ∧ Bl W w' := fun W => by
      rw [extract_rest]
      have := lwhite_any (mkB (l.drop (1 + n1 + n2))) W (by rw [mkB_size, List.length_drop]; omega)
      rw [mkB_data, hn3] at this; exact this
    rw [← extract_rest] at hD1
    -- behind the title
    have fin : ∀ at3 : Nat, at3 ≤ l.length → ∃ n5 p2, at3 + n5 ≤ l.length ∧ lwhiteL (l.drop at3) = n5 ∧ ((l.drop (at3 + n5)).headD 0 == 41) = p2 ∧
        (∀ W, Calls Tryz.prog 189 #[.string ((mkB l).extract at3 (mkB l).size)] W fun e w' => e = .returned (.int .i64 (n5 : Int)) ∧ Bl W w') ∧
        (∀ W, Calls Tryz.prog 34 #[.string ((mkB l).extract (at3 + n5) (mkB l).size), .string ⟨#[41]⟩] W fun e w' => e = .returned (.bool p2) ∧ w' = W) := fun at3 h3 => by
      have hle5 := lwhite_le (l.drop at3)
      rw [List.length_drop] at hle5
      refine ⟨_, _, by omega, rfl, rfl, fun W => ?_, fun W => ?_⟩
      · rw [extract_rest]
        have := lwhite_any (mkB (l.drop at3)) W (by rw [mkB_size, List.length_drop]; omega)
        rw [mkB_data] at this; exact this
      · rw [extract_rest]
        have := Tryz.strings_HasPrefix (mkB (l.drop (at3 + lwhiteL (l.drop at3)))) ⟨#[41]⟩ W
        rw [show (⟨#[41]⟩ : ByteArray).data.toList = [41] from rfl, mkB_data, hasPrefix_one' 41 (by decide)] at this
        exact this
    have hss := mkB_size l
    by_cases hc : 0 < n2 ∧ 0 < n3
    · exact absurd hc hno
    · rw [if_neg hc]
      simp only [Nat.lt_irrefl, if_false]
      obtain ⟨n5, p2, q1, q2, q3, q4, q5⟩ := fin (1 + n1 + n2) (by omega)
      rw [q2, q3]
      obtain ⟨S, hS⟩ : ∃ S, mkB l = S := ⟨_, rfl⟩
      rw [hS] at hpre hW1 hW3 hD1 q4 q5 hss ⊢
      have i1 : (1 : Int) ≤ (S.size : Int) := by omega
      have i2 : (1 : Int) + (n1 : Int) ≤ (S.size : Int) := by omega
      have i3 : (1 : Int) + (n1 : Int) + (n2 : Int) ≤ (S.size : Int) := by omega
      have i4 : (1 : Int) + (n1 : Int) + (n2 : Int) + (n5 : Int) ≤ (S.size : Int) := by omega
      have i5 : S.size ≤ 1000000 := by omega
      obtain rfl : n5 = n3 := by rw [← q2, hn3]
      clear fin hn1 hn3 hd q2 q3 hS hss h40 hl1 hle1 hdle hle3 q1 q4
      by_cases hn2 : 0 < n2
      · have g1 : decide ((0 : Int) < (n2 : Int)) = true := decide_eq_true (by omega)
        have g2 : decide (0 < n2) = true := decide_eq_true hn2
        obtain rfl : n5 = 0 := by omega
        clear hc
        cases p2 with
        | true =>
          go_enter Tryz.func122, Tryz.ntmps122
          go_wp2_with fail
          refine (hpre w).mono ?_
          rintro e wa ⟨rfl, hwa⟩
          rw [hwa]
          clear hwa
          go_wp2_with fail
          refine (hW1 w).mono ?_
          rintro e w1 ⟨rfl, hb1⟩
          dsimp only
          go_wp2_with fail
          refine (hD1 w1 hb1).mono ?_
          rintro e w2 ⟨rfl, hb2⟩
          dsimp only
          go_wp2_with fail
          refine (hW3 w2).mono ?_
          rintro e w3 ⟨rfl, hb3⟩
          dsimp only
          go_wp2_with fail
          refine (hW3 w3).mono ?_
          rintro e w4 ⟨rfl, hb4⟩
          dsimp only
          go_wp2_with fail
          refine (q5 w4).mono ?_
          rintro e wc ⟨rfl, hwc⟩
          rw [hwc]
          clear hwc
          go_wp2_with fail
          go_ret3
          exact ⟨by simp [mkB_nil], ((hb1.trans hb2).trans hb3).trans hb4⟩
        | false =>
          go_enter Tryz.func122, Tryz.ntmps122
          go_wp2_with fail
          refine (hpre w).mono ?_
          rintro e wa ⟨rfl, hwa⟩
          rw [hwa]
          clear hwa
          go_wp2_with fail
          refine (hW1 w).mono ?_
          rintro e w1 ⟨rfl, hb1⟩
          dsimp only
          go_wp2_with fail
          refine (hD1 w1 hb1).mono ?_
          rintro e w2 ⟨rfl, hb2⟩
          dsimp only
          go_wp2_with fail
          refine (hW3 w2).mono ?_
          rintro e w3 ⟨rfl, hb3⟩
          dsimp only
          go_wp2_with fail
          refine (hW3 w3).mono ?_
          rintro e w4 ⟨rfl, hb4⟩
          dsimp only
          go_wp2_with fail
          refine (q5 w4).mono ?_
          rintro e wc ⟨rfl, hwc⟩
          rw [hwc]
          clear hwc
          go_wp2_with fail
          go_ret3
          exact ⟨rfl, ((hb1.trans hb2).trans hb3).trans hb4⟩
      · obtain rfl : n2 = 0 := by omega
        clear hc hn2
        cases p2 with
        | true =>
          go_enter Tryz.func122, Tryz.ntmps122
          go_wp2_with fail
          refine (hpre w).mono ?_
          rintro e wa ⟨rfl, hwa⟩
          rw [hwa]
          clear hwa
          go_wp2_with fail
          refine (hW1 w).mono ?_
          rintro e w1 ⟨rfl, hb1⟩
          dsimp only
          go_wp2_with fail
          refine (hD1 w1 hb1).mono ?_
          rintro e w2 ⟨rfl, hb2⟩
          dsimp only
          go_wp2_with fail
          refine (hW3 w2).mono ?_
          rintro e w3 ⟨rfl, hb3⟩
          dsimp only
          go_wp2_with fail
          refine (hW3 w3).mono ?_
          rintro e w4 ⟨rfl, hb4⟩
          dsimp only
          go_wp2_with fail
          refine (q5 w4).mono ?_
          rintro e wc ⟨rfl, hwc⟩
          rw [hwc]
          clear hwc
          go_wp2_with fail
          go_ret3
          exact ⟨by simp [mkB_nil], ((hb1.trans hb2).trans hb3).trans hb4⟩
        | false =>
          go_enter Tryz.func122, Tryz.ntmps122
          go_wp2_with fail
          refine (hpre w).mono ?_
          rintro e wa ⟨rfl, hwa⟩
          rw [hwa]
          clear hwa
          go_wp2_with fail
          refine (hW1 w).mono ?_
          rintro e w1 ⟨rfl, hb1⟩
          dsimp only
          go_wp2_with fail
          refine (hD1 w1 hb1).mono ?_
          rintro e w2 ⟨rfl, hb2⟩
          dsimp only
          go_wp2_with fail
          refine (hW3 w2).mono ?_
          rintro e w3 ⟨rfl, hb3⟩
          dsimp only
          go_wp2_with fail
          refine (hW3 w3).mono ?_
          rintro e w4 ⟨rfl, hb4⟩
          dsimp only
          go_wp2_with fail
          refine (q5 w4).mono ?_
          rintro e wc ⟨rfl, hwc⟩
          rw [hwc]
          clear hwc
          go_wp2_with fail
          go_ret3
          exact ⟨rfl, ((hb1.trans hb2).trans hb3).trans hb4⟩
end Go.Proofs.YtjocbifjmchbcaaGreatDoor
/- The parser's note and target, where no note stands and a tail leads somewhere. -/
namespace Go.Proofs.YtjocbifjmchbcaaGreatDoor
open Go.RowKit

set_option maxHeartbeats 1000000 in
theorem note_no (w : World) (pb : Nat) (t : List UInt8) (ht : t.headD 0 ≠ 94) :
    Calls Tryz.prog 77 #[.pointer (some ⟨pb, 0, none⟩), .string (mkB t)] w fun e w' => e = .returned (.tuple #[.string ⟨#[]⟩, .bool false]) ∧ Bl w w' := by
  have hC := fun W => Tryz.strings_CutPrefix (mkB t) ⟨#[94]⟩ W
  rw [show (⟨#[94]⟩ : ByteArray).data.toList = [94] from rfl, mkB_data, hasPrefix_one' 94 (by decide), show (t.headD 0 == 94) = false by rw [beq_eq_false_iff_ne]; exact ht] at hC
  go_enter Tryz.func77, Tryz.ntmps77
  go_wp2_with fail
  refine (hC w).mono ?_
  rintro e w1 ⟨rfl, hw1⟩
  rw [hw1]
  clear hw1
  go_wp2_with fail
  go_ret2
  exact ⟨rfl, Bl.refl w⟩
set_option maxRecDepth 100000 in
set_option maxHeartbeats 4000000 in
theorem target_tail (w0 w : World) (pb : Nat) (s : List UInt8) (dv nv : Value) (m : Int) (a : Pa) (hZ : Pz w0 w pb s dv nv m a) (ha : a.at_ < s.length) (hs : s.length ≤ 1000000) (t : ByteArray) (d e : List UInt8) (n : Nat) (hn : 0 < n)
    (hT : ∀ W, Bl w W → Calls Tryz.prog 122 #[.string (mkB (s.drop (a.at_ + 1)))] W fun en w' => en = .returned (.tuple #[.string (mkB d), .string (mkB e), .int .i64 (n : Int)]) ∧ Bl W w') :
    Calls Tryz.prog 78 #[.pointer (some ⟨pb, 0, none⟩), .string t] w fun en w' => en = .returned (.tuple #[.agg #[.string ⟨#[]⟩, .string (mkB d), .string (mkB e)], .int .i64 (n : Int), .bool true]) ∧ Bl w w' := by
  have hR := rest_any w0 (w.alloc (.cells #[.string ⟨#[]⟩, .string ⟨#[]⟩, .string ⟨#[]⟩] 41)) pb s dv nv m a (hZ.more ((Bl.refl w).alloc _)) (by omega)
  have hnew := heap_alloc_new w (.cells #[.string ⟨#[]⟩, .string ⟨#[]⟩, .string ⟨#[]⟩] 41)
  have hbA : Bl w (w.alloc (.cells #[.string ⟨#[]⟩, .string ⟨#[]⟩, .string ⟨#[]⟩] 41)) := (Bl.refl w).alloc _
  have hX : (mkB (s.drop a.at_)).extract 1 (mkB (s.drop a.at_)).size = mkB (s.drop (a.at_ + 1)) := by rw [extract_rest, List.drop_drop]
  rw [← hX] at hT
  have hss := mkB_size (s.drop a.at_)
  rw [List.length_drop] at hss
  obtain ⟨R, hRe⟩ : ∃ R, mkB (s.drop a.at_) = R := ⟨_, rfl⟩
  rw [hRe] at hR hT hss
  have i1 : (1 : Int) ≤ (R.size : Int) := by omega
  have i2 : decide ((0 : Int) < (n : Int)) = true := decide_eq_true (by omega)
  have i3 : decide (0 < n) = true := decide_eq_true hn
  clear hX hRe hss
  go_enter Tryz.func78, Tryz.ntmps78
  go_wp2_with fail
  obtain ⟨w1, hw1⟩ : ∃ w1, w.alloc (.cells #[.string ⟨#[]⟩, .string ⟨#[]⟩, .string ⟨#[]⟩] 41) = w1 := ⟨_, rfl⟩
  obtain ⟨rb, hrb⟩ : ∃ rb, w.heap.size = rb := ⟨_, rfl⟩
  rw [hw1] at hR hnew hbA ⊢
  rw [hrb] at hnew ⊢
  have hrb := Lib.hid hrb
  clear hw1
  refine hR.mono ?_
  rintro en w2 ⟨rfl, hb2⟩
  dsimp only
  go_wp2_with fail
  refine (hT w2 (hbA.trans hb2)).mono ?_
  rintro en w3 ⟨rfl, hb3⟩
  dsimp only
  have hn3 := ((hb2.trans hb3).block (heap_lt hnew)).trans hnew
  have z0 : w3.frozen? ⟨rb, 0, none⟩ = false := Lib.frozen_of_heap hn3 0
  have z1 : w3.frozen? ⟨rb, 1, none⟩ = false := Lib.frozen_of_heap hn3 1
  have z2 : w3.frozen? ⟨rb, 2, none⟩ = false := Lib.frozen_of_heap hn3 2
  have r0 : w3.cell? ⟨rb, 0, none⟩ = some (.string ⟨#[]⟩) := by rw [Lib.cell_of_heap hn3]; rfl
  have r1 : w3.cell? ⟨rb, 1, none⟩ = some (.string ⟨#[]⟩) := by rw [Lib.cell_of_heap hn3]; rfl
  have r2 : w3.cell? ⟨rb, 2, none⟩ = some (.string ⟨#[]⟩) := by rw [Lib.cell_of_heap hn3]; rfl
  go_wp2_with fail
  have hfin : (((w3.setCell ⟨rb, 0, none⟩ (.string ⟨#[]⟩)).setCell ⟨rb, 1, none⟩ (.string (mkB d))).setCell ⟨rb, 2, none⟩ (.string (mkB e))).heap[rb]? = some (.cells #[.string ⟨#[]⟩, .string (mkB d), .string (mkB e)] 41 (0, 0)) := by
    simp [World.setCell, Array.getElem?_modify, hn3]
  have hge : w.heap.size ≤ rb := by rw [hrb.out]; exact Nat.le_refl _
  have hbF : Bl w (((w3.setCell ⟨rb, 0, none⟩ (.string ⟨#[]⟩)).setCell ⟨rb, 1, none⟩ (.string (mkB d))).setCell ⟨rb, 2, none⟩ (.string (mkB e))) :=
    ((((hbA.trans hb2).trans hb3).grown (grownBy_setCell _ _ _) (fun b hb => by cases hb; exact hge)).grown (grownBy_setCell _ _ _) (fun b hb => by cases hb; exact hge)).grown (grownBy_setCell _ _ _) (fun b hb => by cases hb; exact hge)
  obtain ⟨wF, hwF⟩ : ∃ wF, ((w3.setCell ⟨rb, 0, none⟩ (.string ⟨#[]⟩)).setCell ⟨rb, 1, none⟩ (.string (mkB d))).setCell ⟨rb, 2, none⟩ (.string (mkB e)) = wF := ⟨_, rfl⟩
  rw [hwF] at hfin hbF ⊢
  have q0 : wF.cell? ⟨rb, 0, none⟩ = some (.string ⟨#[]⟩) := by rw [Lib.cell_of_heap hfin]; rfl
  have q1 : wF.cell? ⟨rb, 1, none⟩ = some (.string (mkB d)) := by rw [Lib.cell_of_heap hfin]; rfl
  have q2 : wF.cell? ⟨rb, 2, none⟩ = some (.string (mkB e)) := by rw [Lib.cell_of_heap hfin]; rfl
  exact bodyPost_ret (v := .tuple #[.agg #[.string ⟨#[]⟩, .string (mkB d), .string (mkB e)], .int .i64 (n : Int), .bool true]) (by simp [results, Tryz.results78, go_sem, q0, q1, q2]) rfl ⟨rfl, hbF⟩
end Go.Proofs.YtjocbifjmchbcaaGreatDoor
/- What the parser makes of plain texts: letters and blanks, some signs, a line's end. -/
namespace Go.Proofs.YtjocbifjmchbcaaGreatDoor

theorem indexAny_none (chars : List UInt8) : ∀ u : List UInt8, (∀ b ∈ u, chars.contains b = false) → Lib.indexAny u chars = -1
  | [], _ => rfl
  | b :: u, h => by
    have ih := indexAny_none chars u (fun x hx => h x (List.mem_cons_of_mem _ hx))
    rw [Lib.indexAny, h b List.mem_cons_self, ih]; rfl
theorem indexAny_at (chars : List UInt8) (c : UInt8) (r : List UInt8) (hc : chars.contains c = true) : ∀ u : List UInt8, (∀ b ∈ u, chars.contains b = false) → Lib.indexAny (u ++ c :: r) chars = u.length
  | [], _ => by show Lib.indexAny (c :: r) chars = _; rw [Lib.indexAny, hc]; rfl
  | b :: u, h => by
    have ih := indexAny_at chars c r hc u (fun x hx => h x (List.mem_cons_of_mem _ hx))
    rw [List.cons_append, Lib.indexAny, h b List.mem_cons_self, ih]
    have : ((u.length : Int) == -1) = false := by rw [beq_eq_false_iff_ne]; omega
    rw [this]; simp
theorem plainN_eq (b : UInt8) (u r : List UInt8) (hu : ∀ x ∈ u, specialL.contains x = false) (hr : r = [] ∨ ∃ c t, r = c :: t ∧ specialL.contains c = true) : plainN (b :: u ++ r) = u.length + 1 := by
  unfold plainN
  rcases hr with rfl | ⟨c, t, rfl, hc⟩
  · have : Lib.indexAny ((b :: u ++ []).drop 1) specialL = -1 := by simpa using indexAny_none specialL u hu
    rw [this]; simp
  · have : Lib.indexAny ((b :: u ++ c :: t).drop 1) specialL = u.length := indexAny_at specialL c t hc u hu
    rw [this, if_neg (by omega)]; omega
theorem drop_mid (A B : List UInt8) : (A ++ B).drop A.length = B := by simp
theorem plain_at (A : List UInt8) (b : UInt8) (u r : List UInt8) (l : List Pc) (hu : ∀ x ∈ u, specialL.contains x = false) (hr : r = [] ∨ ∃ c t, r = c :: t ∧ specialL.contains c = true) :
    plainP (A ++ (b :: u ++ r)) ⟨A.length, l⟩ = ⟨A.length + (u.length + 1), l ++ [.text (b :: u)]⟩ := by
  unfold plainP
  dsimp only
  rw [drop_mid, plainN_eq b u r hu hr]
  unfold Pa.add Pc.text
  dsimp only
  rw [List.take_left' (by simp)]
theorem step_plain (X : Ext) (s : List UInt8) (a : Pa) (h : specialL.contains ((s.drop a.at_).headD 0) = false) (hne : s.drop a.at_ ≠ []) : stepL X s a = plainP s a := by
  obtain ⟨c, t, e⟩ := List.exists_cons_of_ne_nil hne
  have hh : (s.drop a.at_).headD 0 = c := by rw [e]; rfl
  rw [hh] at h
  have n : ∀ d ∈ specialL, (c == d) = false := fun d hd => by
    rw [beq_eq_false_iff_ne]
    rintro rfl
    rw [List.contains_iff_mem.2 hd] at h; cases h
  have hp : Lib.hasPrefix (s.drop a.at_) [33, 91] = false := by
    rw [e]; unfold Lib.hasPrefix List.isPrefixOf
    have := n 33 (by decide)
    have h2 : ((33 : UInt8) == c) = false := by rw [beq_eq_false_iff_ne] at this ⊢; exact fun e => this e.symm
    rw [h2]; rfl
  unfold stepL
  dsimp only
  rw [hh, hp, n 92 (by decide), n 38 (by decide), n 96 (by decide), n 60 (by decide), n 42 (by decide), n 95 (by decide), n 126 (by decide), n 91 (by decide), n 93 (by decide), n 10 (by decide)]
  rfl
theorem runL_rep (c : UInt8) (r : List UInt8) (hr : r.headD 0 ≠ c ∨ r = []) : ∀ k, 1 ≤ k → runL (List.replicate k c ++ r) = k := by
  have gen : ∀ k, ((List.replicate k c ++ r).takeWhile (· == c)).length = k := by
    intro k
    induction k with
    | zero =>
      cases r with
      | nil => rfl
      | cons d t =>
        have : (d == c) = false := by
          rw [beq_eq_false_iff_ne]
          rcases hr with h | h
          · exact h
          · cases h
        simp [this]
    | succ k ih => rw [List.replicate_succ, List.cons_append, List.takeWhile_cons, if_pos (by simp), List.length_cons, ih]
  intro k hk
  unfold runL
  have : (List.replicate k c ++ r).headD 0 = c := by
    obtain ⟨k, rfl⟩ : ∃ j, k = j + 1 := ⟨k - 1, by omega⟩
    rfl
  rw [this]; exact gen k
theorem step_star (X : Ext) (s : List UInt8) (a : Pa) (h : (s.drop a.at_).headD 0 = 42) : stepL X s a = signsL s 42 a := by
  unfold stepL
  dsimp only
  rw [h]; rfl
theorem signs_at (A B : List UInt8) (k : Nat) (l : List Pc) (hk : 1 ≤ k) (hB : B.headD 0 ≠ 42 ∨ B = []) :
    signsL (A ++ (List.replicate k 42 ++ B)) 42 ⟨A.length, l⟩ = ⟨A.length + k, l ++ [.run ⟨42, k, (flankR (lastI A) (firstI B) 42).1, (flankR (lastI A) (firstI B) 42).2⟩]⟩ := by
  unfold signsL
  dsimp only
  rw [drop_mid, runL_rep 42 B hB k hk]
  rw [if_neg (by simp)]
  have e1 : (A ++ (List.replicate k 42 ++ B)).take A.length = A := by simp
  have e2 : (A ++ (List.replicate k 42 ++ B)).drop (A.length + k) = B := by
    rw [← List.drop_drop, drop_mid]; simp
  rw [e1, e2]; rfl
theorem steps_one (X : Ext) (s : List UInt8) (f : Nat) (a : Pa) (h : a.at_ < s.length) : stepsL X s (f + 1) a = stepsL X s f (stepL X s a) := by rw [stepsL, if_pos h]
theorem steps_end (X : Ext) (s : List UInt8) (f : Nat) (a : Pa) (h : s.length ≤ a.at_) : stepsL X s f a = a := by
  cases f with
  | zero => rfl
  | succ f => rw [stepsL, if_neg (by omega)]

/-! ### characters at the ends -/
theorem width_ascii (b : UInt8) (t : List UInt8) (h1 : b.toNat < 128) : Lib.decodeGo (mkB (b :: t)) = (b.toNat, 1) := by
  unfold Lib.decodeGo
  have hs : (mkB (b :: t)).size = t.length + 1 := by rw [mkB_size]; rfl
  rw [if_neg (by omega)]
  have := decode_ascii (mkB (b :: t)) 0 (by omega) h1
  rw [this]; rfl
theorem first_ascii (b : UInt8) (t : List UInt8) (h0 : b ≠ 0) (h1 : b.toNat < 128) : firstI (b :: t) = (b.toNat : Int) := by
  have hw : widthL (b :: t.take 3) = 1 := by unfold widthL; rw [width_ascii b _ h1]
  have hbad : badL (b :: t.take 3) = false := by
    unfold badL
    have e1 : (b == 0) = false := by rw [beq_eq_false_iff_ne]; exact h0
    have e2 : decide (128 ≤ b.toNat) = false := decide_eq_false (by omega)
    rw [show (b :: t.take 3).headD 0 = b from rfl, e1, e2, Bool.and_false]; rfl
  have hc : cleanL ((b :: t).take 4) = b :: cleanGo ((t.take 3).length + 1) (t.take 3) := by
    show cleanL (b :: t.take 3) = _
    unfold cleanL
    rw [List.length_cons, cleanGo_good _ _ (by simp) hbad, hw]
    rfl
  unfold firstI
  rw [hc, width_ascii b _ h1]; rfl
theorem last_ascii (u : List UInt8) (b : UInt8) (h0 : b ≠ 0) (h1 : b.toNat < 128) : lastI (u ++ [b]) = (b.toNat : Int) := by
  unfold lastI Lib.decodeLastL
  have e1 : (u ++ [b]).isEmpty = false := by simp
  have e2 : (u ++ [b]).getD ((u ++ [b]).length - 1) 0 = b := by simp
  have e3 : u ++ [b] ≠ [] := by simp
  rw [e1, if_neg (by decide), if_neg e3, e2, if_pos h1]
  have : (b.toNat == 0) = false := by
    rw [beq_eq_false_iff_ne]
    intro e
    exact h0 (UInt8.toNat_inj.1 (by rw [e]; rfl))
  dsimp only
  rw [this]; rfl
theorem first_nil : firstI [] = 0 := rfl
theorem last_nil : lastI [] = 0 := rfl

/-! ### letters between stars -/
def Low (b : UInt8) : Prop := 97 ≤ b.toNat ∧ b.toNat ≤ 122
set_option maxRecDepth 10000 in
theorem low_facts {b : UInt8} (h : Low b) : specialL.contains b = false ∧ b ≠ 0 ∧ b.toNat < 128 ∧ (b == 42) = false ∧ leansR (b.toNat : Int) 0 = true ∧ (b == 10) = false ∧ b ≠ 32 := by
  have : ∀ n : Fin 256, 97 ≤ n.val → n.val ≤ 122 → specialL.contains (UInt8.ofNat n.val) = false ∧ UInt8.ofNat n.val ≠ 0 ∧ (UInt8.ofNat n.val).toNat < 128 ∧ ((UInt8.ofNat n.val) == 42) = false ∧ leansR ((UInt8.ofNat n.val).toNat : Int) 0 = true ∧ ((UInt8.ofNat n.val) == 10) = false ∧ UInt8.ofNat n.val ≠ 32 := by decide
  have h2 := this ⟨b.toNat, b.toNat_lt⟩ h.1 h.2
  rwa [UInt8.ofNat_toNat] at h2
theorem leans0 (x : Int) : leansR 0 x = false := rfl
theorem pieces_emph (X : Ext) (k : Nat) (hk : 1 ≤ k) (b : UInt8) (u : List UInt8) (hb : Low b) (hu : ∀ x ∈ u, Low x) :
    piecesL X (List.replicate k 42 ++ (b :: u ++ List.replicate k 42)) = [.run ⟨42, k, true, false⟩, .text (b :: u), .run ⟨42, k, false, true⟩] := by
  unfold piecesL
  obtain ⟨hb1, hb2, hb3, hb4, hb5, hb6, hb7⟩ := low_facts hb
  obtain ⟨j, rfl⟩ : ∃ j, k = j + 1 := ⟨k - 1, by omega⟩
  have hl : (List.replicate (j + 1) 42 ++ (b :: u ++ List.replicate (j + 1) 42)).length = (j + 1 + u.length + j) + 1 + 1 := by simp; omega
  rw [hl, show j + 1 + u.length + j + 1 + 1 = (j + 1 + u.length + j - 1 + 1) + 1 + 1 by omega]
  have S1 : stepL X (List.replicate (j + 1) 42 ++ (b :: u ++ List.replicate (j + 1) 42)) ⟨0, []⟩ = ⟨j + 1, [.run ⟨42, j + 1, true, false⟩]⟩ := by
    rw [step_star _ _ _ rfl]
    have := signs_at [] (b :: u ++ List.replicate (j + 1) 42) (j + 1) [] (by omega) (.inl (by simp; simpa using hb4))
    simp only [List.nil_append, List.length_nil, Nat.zero_add] at this
    rw [this, last_nil, List.cons_append, first_ascii b _ hb2 hb3]
    unfold flankR
    rw [if_pos (by decide), hb5, leans0]
  have S2 : stepL X (List.replicate (j + 1) 42 ++ (b :: u ++ List.replicate (j + 1) 42)) ⟨j + 1, [.run ⟨42, j + 1, true, false⟩]⟩ = ⟨j + 1 + (u.length + 1), [.run ⟨42, j + 1, true, false⟩, .text (b :: u)]⟩ := by
    have hd : (List.replicate (j + 1) (42 : UInt8) ++ (b :: u ++ List.replicate (j + 1) 42)).drop (j + 1) = b :: u ++ List.replicate (j + 1) 42 := by
      have := drop_mid (List.replicate (j + 1) 42) (b :: u ++ List.replicate (j + 1) 42)
      rwa [List.length_replicate] at this
    rw [step_plain _ _ _ (by dsimp only; rw [hd]; exact hb1) (by dsimp only; rw [hd]; simp)]
    have := plain_at (List.replicate (j + 1) 42) b u (List.replicate (j + 1) 42) [.run ⟨42, j + 1, true, false⟩] (fun x hx => (low_facts (hu x hx)).1) (.inr ⟨42, List.replicate j 42, rfl, by decide⟩)
    rw [List.length_replicate] at this
    exact this
  have S3 : stepL X (List.replicate (j + 1) 42 ++ (b :: u ++ List.replicate (j + 1) 42)) ⟨j + 1 + (u.length + 1), [.run ⟨42, j + 1, true, false⟩, .text (b :: u)]⟩ = ⟨j + 1 + (u.length + 1) + (j + 1), [.run ⟨42, j + 1, true, false⟩, .text (b :: u), .run ⟨42, j + 1, false, true⟩]⟩ := by
    have e : List.replicate (j + 1) (42 : UInt8) ++ (b :: u ++ List.replicate (j + 1) 42) = (List.replicate (j + 1) 42 ++ (b :: u)) ++ (List.replicate (j + 1) 42 ++ []) := by simp
    have hA : (List.replicate (j + 1) (42 : UInt8) ++ (b :: u)).length = j + 1 + (u.length + 1) := by simp
    have := signs_at (List.replicate (j + 1) 42 ++ (b :: u)) [] (j + 1) [.run ⟨42, j + 1, true, false⟩, .text (b :: u)] (by omega) (.inr rfl)
    rw [hA, ← e] at this
    have hd : (List.replicate (j + 1) (42 : UInt8) ++ (b :: u ++ List.replicate (j + 1) 42)).drop (j + 1 + (u.length + 1)) = List.replicate (j + 1) 42 := by
      rw [e, ← hA, drop_mid]; simp
    rw [step_star _ _ _ (by dsimp only; rw [hd]; rfl), this, first_nil]
    obtain ⟨v, c, hv, hc⟩ : ∃ v c, b :: u = v ++ [c] ∧ Low c := by
      refine ⟨(b :: u).dropLast, (b :: u).getLast (by simp), (List.dropLast_concat_getLast (by simp)).symm, ?_⟩
      have := List.getLast_mem (l := b :: u) (by simp)
      rcases List.mem_cons.1 this with h | h
      · rw [h]; exact hb
      · exact hu _ h
    obtain ⟨_, hc2, hc3, _, hc5, _⟩ := low_facts hc
    rw [hv, ← List.append_assoc, last_ascii _ c hc2 hc3]
    unfold flankR
    rw [if_pos (by decide), hc5, leans0]; rfl
  rw [steps_one _ _ _ _ (by simp <;> omega), S1, steps_one _ _ _ _ (by simp), S2, steps_one _ _ _ _ (by simp <;> omega), S3, steps_end _ _ _ _ (by simp; omega)]
theorem pieces_blank (X : Ext) (k : Nat) (hk : 1 ≤ k) (u : List UInt8) (hu : ∀ x ∈ u, Low x) :
    piecesL X (List.replicate k 42 ++ (32 :: (u ++ [32]) ++ List.replicate k 42)) = [.run ⟨42, k, false, false⟩, .text (32 :: (u ++ [32])), .run ⟨42, k, false, false⟩] := by
  unfold piecesL
  obtain ⟨j, rfl⟩ : ∃ j, k = j + 1 := ⟨k - 1, by omega⟩
  obtain ⟨t, ht⟩ : ∃ t, u ++ [(32 : UInt8)] = t := ⟨_, rfl⟩
  have htm : ∀ x ∈ t, specialL.contains x = false := by
    rw [← ht]
    intro x hx
    rcases List.mem_append.1 hx with hx | hx
    · exact (low_facts (hu x hx)).1
    · have : x = 32 := by simpa using hx
      subst this; decide
  have hl : (List.replicate (j + 1) 42 ++ ((32 : UInt8) :: t ++ List.replicate (j + 1) 42)).length = (j + 1 + t.length + j) + 1 + 1 := by simp; omega
  rw [ht, hl, show j + 1 + t.length + j + 1 + 1 = (j + 1 + t.length + j - 1 + 1) + 1 + 1 by omega]
  have S1 : stepL X (List.replicate (j + 1) 42 ++ (32 :: t ++ List.replicate (j + 1) 42)) ⟨0, []⟩ = ⟨j + 1, [.run ⟨42, j + 1, false, false⟩]⟩ := by
    rw [step_star _ _ _ rfl]
    have := signs_at [] (32 :: t ++ List.replicate (j + 1) 42) (j + 1) [] (by omega) (.inl (by simp))
    simp only [List.nil_append, List.length_nil, Nat.zero_add] at this
    rw [this, last_nil, List.cons_append, first_ascii 32 _ (by decide) (by decide)]
    rfl
  have S2 : stepL X (List.replicate (j + 1) 42 ++ (32 :: t ++ List.replicate (j + 1) 42)) ⟨j + 1, [.run ⟨42, j + 1, false, false⟩]⟩ = ⟨j + 1 + (t.length + 1), [.run ⟨42, j + 1, false, false⟩, .text (32 :: t)]⟩ := by
    have hd : (List.replicate (j + 1) (42 : UInt8) ++ (32 :: t ++ List.replicate (j + 1) 42)).drop (j + 1) = 32 :: t ++ List.replicate (j + 1) 42 := by
      have := drop_mid (List.replicate (j + 1) 42) (32 :: t ++ List.replicate (j + 1) 42)
      rwa [List.length_replicate] at this
    rw [step_plain _ _ _ (by dsimp only; rw [hd]; exact (by decide : specialL.contains 32 = false)) (by dsimp only; rw [hd]; simp)]
    have := plain_at (List.replicate (j + 1) 42) 32 t (List.replicate (j + 1) 42) [.run ⟨42, j + 1, false, false⟩] htm (.inr ⟨42, List.replicate j 42, rfl, by decide⟩)
    rw [List.length_replicate] at this
    exact this
  have S3 : stepL X (List.replicate (j + 1) 42 ++ (32 :: t ++ List.replicate (j + 1) 42)) ⟨j + 1 + (t.length + 1), [.run ⟨42, j + 1, false, false⟩, .text (32 :: t)]⟩ = ⟨j + 1 + (t.length + 1) + (j + 1), [.run ⟨42, j + 1, false, false⟩, .text (32 :: t), .run ⟨42, j + 1, false, false⟩]⟩ := by
    have e : List.replicate (j + 1) (42 : UInt8) ++ (32 :: t ++ List.replicate (j + 1) 42) = (List.replicate (j + 1) 42 ++ (32 :: t)) ++ (List.replicate (j + 1) 42 ++ []) := by simp
    have hA : (List.replicate (j + 1) (42 : UInt8) ++ (32 :: t)).length = j + 1 + (t.length + 1) := by simp
    have := signs_at (List.replicate (j + 1) 42 ++ (32 :: t)) [] (j + 1) [.run ⟨42, j + 1, false, false⟩, .text (32 :: t)] (by omega) (.inr rfl)
    rw [hA, ← e] at this
    have hd : (List.replicate (j + 1) (42 : UInt8) ++ (32 :: t ++ List.replicate (j + 1) 42)).drop (j + 1 + (t.length + 1)) = List.replicate (j + 1) 42 := by
      rw [e, ← hA, drop_mid]; simp
    rw [step_star _ _ _ (by dsimp only; rw [hd]; rfl), this, first_nil]
    have e2 : List.replicate (j + 1) (42 : UInt8) ++ 32 :: t = (List.replicate (j + 1) 42 ++ 32 :: u) ++ [32] := by rw [← ht]; simp
    rw [e2, last_ascii _ 32 (by decide) (by decide)]
    rfl
  rw [steps_one _ _ _ _ (by simp <;> omega), S1, steps_one _ _ _ _ (by simp), S2, steps_one _ _ _ _ (by simp <;> omega), S3, steps_end _ _ _ _ (by simp; omega)]
theorem matchE1 : matchL [⟨42, 1, true, false⟩, ⟨42, 1, false, true⟩] = [(0, 1, 1)] := by kernel_rfl
theorem matchE2 : matchL [⟨42, 2, true, false⟩, ⟨42, 2, false, true⟩] = [(0, 1, 2)] := by kernel_rfl
theorem matchE3 : matchL [⟨42, 3, true, false⟩, ⟨42, 3, false, true⟩] = [(0, 1, 2), (0, 1, 1)] := by kernel_rfl
theorem matchN (k : Nat) (hk : k = 1 ∨ k = 2 ∨ k = 3) : matchL [⟨42, k, false, false⟩, ⟨42, k, false, false⟩] = [] := by rcases hk with rfl | rfl | rfl <;> kernel_rfl
theorem parse_emph1 (X : Ext) (b : UInt8) (u : List UInt8) (hb : Low b) (hu : ∀ x ∈ u, Low x) : parseL X ([42] ++ (b :: u ++ [42])) = .one 18 [] [] (.one 14 (b :: u) [] .nil) := by
  unfold parseL
  have := pieces_emph X 1 (by omega) b u hb hu
  have e : ∀ l : List UInt8, [42] ++ (b :: u ++ [42]) = List.replicate 1 42 ++ (b :: u ++ List.replicate 1 42) := fun _ => rfl
  rw [e [], this]
  unfold nodesL usageL runsL Pc.text
  simp only [runsL, matchE1]
  rfl
theorem parse_emph2 (X : Ext) (b : UInt8) (u : List UInt8) (hb : Low b) (hu : ∀ x ∈ u, Low x) : parseL X ([42, 42] ++ (b :: u ++ [42, 42])) = .one 19 [] [] (.one 14 (b :: u) [] .nil) := by
  unfold parseL
  have := pieces_emph X 2 (by omega) b u hb hu
  have e : ∀ l : List UInt8, [42, 42] ++ (b :: u ++ [42, 42]) = List.replicate 2 42 ++ (b :: u ++ List.replicate 2 42) := fun _ => rfl
  rw [e [], this]
  unfold nodesL usageL runsL Pc.text
  simp only [runsL, matchE2]
  rfl
theorem parse_emph3 (X : Ext) (b : UInt8) (u : List UInt8) (hb : Low b) (hu : ∀ x ∈ u, Low x) : parseL X ([42, 42, 42] ++ (b :: u ++ [42, 42, 42])) = .one 18 [] [] (.one 19 [] [] (.one 14 (b :: u) [] .nil)) := by
  unfold parseL
  have := pieces_emph X 3 (by omega) b u hb hu
  have e : ∀ l : List UInt8, [42, 42, 42] ++ (b :: u ++ [42, 42, 42]) = List.replicate 3 42 ++ (b :: u ++ List.replicate 3 42) := fun _ => rfl
  rw [e [], this]
  unfold nodesL usageL runsL Pc.text
  simp only [runsL, matchE3]
  rfl
theorem parse_blank (X : Ext) (k : Nat) (hk : k = 1 ∨ k = 2 ∨ k = 3) (u : List UInt8) (hu : ∀ x ∈ u, Low x) : parseL X (List.replicate k 42 ++ (32 :: (u ++ [32]) ++ List.replicate k 42)) = .one 14 (List.replicate k 42 ++ (32 :: (u ++ [32])) ++ List.replicate k 42) [] .nil := by
  unfold parseL
  rw [pieces_blank X k (by omega) u hu]
  unfold nodesL usageL runsL Pc.text
  simp only [runsL, matchN k hk]
  rcases hk with rfl | rfl | rfl <;> rfl
end Go.Proofs.YtjocbifjmchbcaaGreatDoor
/- The parser's step, by the byte that stands there. -/
namespace Go.Proofs.YtjocbifjmchbcaaGreatDoor
open Go.RowKit

theorem byte_at (s : List UInt8) (q : Nat) (h : q < (mkB s).size) : (mkB s)[q] = (s.drop q).headD 0 := by
  have h2 : q < s.length := by rwa [mkB_size] at h
  rw [List.drop_eq_getElem_cons h2]
  rfl
theorem byte_neq (b : UInt8) (c : Nat) (hc : c < 256) (h : b ≠ UInt8.ofNat c) : ((b.toNat : Int) == (c : Int)) = false := by
  rw [beq_eq_false_iff_ne]
  intro e
  apply h
  apply UInt8.toNat_inj.1
  rw [UInt8.toNat_ofNat_of_lt' hc]
  omega
theorem step_setup {w0 w : World} {pb : Nat} {s : List UInt8} {dv nv : Value} {m : Int} {a : Pa} (hZ : Pz w0 w pb s dv nv m a) (ha : a.at_ < s.length) :
    ∃ (S : ByteArray) (q : Nat) (hq : q < S.size), w.cell? ⟨pb, 0, none⟩ = some (.string S) ∧ w.cell? ⟨pb, 1, none⟩ = some (.int .i64 (q : Int)) ∧ S[q] = (s.drop a.at_).headD 0 ∧ S = mkB s ∧ q = a.at_ := by
  obtain ⟨lo, lc, xs, h1, _, _⟩ := hZ.ex
  have hq0 : a.at_ < (mkB s).size := by rw [mkB_size]; exact ha
  exact ⟨mkB s, a.at_, hq0, by rw [Lib.cell_of_heap h1]; rfl, by rw [Lib.cell_of_heap h1]; rfl, byte_at s _ hq0, rfl, rfl⟩
theorem no_bang (l : List UInt8) (h : l.headD 0 ≠ 33) : Lib.hasPrefix l [33, 91] = false := by
  cases l with
  | nil => rfl
  | cons a t =>
    have : ((33 : UInt8) == a) = false := by rw [beq_eq_false_iff_ne]; exact fun e => h e.symm
    unfold Lib.hasPrefix List.isPrefixOf
    rw [this]; rfl
set_option maxRecDepth 100000 in
set_option maxHeartbeats 8000000 in
theorem step_42 (w0 w : World) (pb : Nat) (s : List UInt8) (dv nv : Value) (m : Int) (a RES : Pa) (hZ : Pz w0 w pb s dv nv m a) (ha : a.at_ < s.length) (hc : (s.drop a.at_).headD 0 = 42)
    (hCall : ∀ W, Bl w W → Calls Tryz.prog 33 #[.pointer (some ⟨pb, 0, none⟩), .int .u8 42] W fun e w' => e = .returned (.tuple #[]) ∧ Pz w0 w' pb s dv nv m RES) :
    Calls Tryz.prog 20 #[.pointer (some ⟨pb, 0, none⟩)] w fun e w' => e = .returned (.tuple #[]) ∧ Pz w0 w' pb s dv nv m RES := by
  obtain ⟨S, q, hq0, c0, c1, hby, hSe, hqe⟩ := step_setup hZ ha
  rw [hc] at hby
  have hby : ((S[q].toNat : Nat) : Int) = 42 := by rw [hby]; rfl
  have i1 : (q : Int) < (S.size : Int) := by omega
  have i2 : (0 : Int) ≤ (q : Int) := Int.natCast_nonneg _
  clear hSe hqe hc
  go_enter Tryz.func20, Tryz.ntmps20
  go_wp2_with fail
  go_quiet (fail)
  go_wp2_with fail
  refine (hCall _ ((Bl.refl w).drewN _)).mono ?_
  rintro e w2 ⟨rfl, hZ2⟩
  dsimp only
  go_wp2_with fail
  go_end0
  exact ⟨rfl, hZ2⟩
set_option maxRecDepth 100000 in
set_option maxHeartbeats 8000000 in
theorem step_92 (w0 w : World) (pb : Nat) (s : List UInt8) (dv nv : Value) (m : Int) (a RES : Pa) (hZ : Pz w0 w pb s dv nv m a) (ha : a.at_ < s.length) (hc : (s.drop a.at_).headD 0 = 92)
    (hCall : ∀ W, Bl w W → Calls Tryz.prog 29 #[.pointer (some ⟨pb, 0, none⟩)] W fun e w' => e = .returned (.tuple #[]) ∧ Pz w0 w' pb s dv nv m RES) :
    Calls Tryz.prog 20 #[.pointer (some ⟨pb, 0, none⟩)] w fun e w' => e = .returned (.tuple #[]) ∧ Pz w0 w' pb s dv nv m RES := by
  obtain ⟨S, q, hq0, c0, c1, hby, hSe, hqe⟩ := step_setup hZ ha
  rw [hc] at hby
  have hby : ((S[q].toNat : Nat) : Int) = 92 := by rw [hby]; rfl
  have i1 : (q : Int) < (S.size : Int) := by omega
  have i2 : (0 : Int) ≤ (q : Int) := Int.natCast_nonneg _
  clear hSe hqe hc
  go_enter Tryz.func20, Tryz.ntmps20
  go_wp2_with fail
  go_quiet (fail)
  go_wp2_with fail
  refine (hCall _ ((Bl.refl w).drewN _)).mono ?_
  rintro e w2 ⟨rfl, hZ2⟩
  dsimp only
  go_wp2_with fail
  go_end0
  exact ⟨rfl, hZ2⟩
set_option maxRecDepth 100000 in
set_option maxHeartbeats 8000000 in
theorem step_91 (w0 w : World) (pb : Nat) (s : List UInt8) (dv nv : Value) (m : Int) (a RES : Pa) (hZ : Pz w0 w pb s dv nv m a) (ha : a.at_ < s.length) (hc : (s.drop a.at_).headD 0 = 91)
    (hCall : ∀ W, Bl w W → Calls Tryz.prog 36 #[.pointer (some ⟨pb, 0, none⟩), .string ⟨#[91]⟩] W fun e w' => e = .returned (.tuple #[]) ∧ Pz w0 w' pb s dv nv m RES) :
    Calls Tryz.prog 20 #[.pointer (some ⟨pb, 0, none⟩)] w fun e w' => e = .returned (.tuple #[]) ∧ Pz w0 w' pb s dv nv m RES := by
  obtain ⟨S, q, hq0, c0, c1, hby, hSe, hqe⟩ := step_setup hZ ha
  have hRS := fun W (hW : Bl w W) => rest_any w0 W pb s dv nv m a (hZ.more hW) (Nat.le_of_lt ha)
  have hpre := fun W => Tryz.strings_HasPrefix (mkB (s.drop a.at_)) ⟨#[33, 91]⟩ W
  rw [show (⟨#[33, 91]⟩ : ByteArray).data.toList = [33, 91] from rfl, mkB_data, no_bang (s.drop a.at_) (by rw [hc]; decide)] at hpre
  rw [hc] at hby
  have hby : ((S[q].toNat : Nat) : Int) = 91 := by rw [hby]; rfl
  have i1 : (q : Int) < (S.size : Int) := by omega
  have i2 : (0 : Int) ≤ (q : Int) := Int.natCast_nonneg _
  clear hSe hqe hc
  go_enter Tryz.func20, Tryz.ntmps20
  go_wp2_with fail
  go_quiet (fail)
  go_wp2_with fail
  refine (hRS _ ((Bl.refl w).drewN _)).mono ?_
  rintro e w1 ⟨rfl, hb1⟩
  dsimp only
  have hbw : Bl w w1 := ((Bl.refl w).drewN nq).trans hb1
  go_wp2_with fail
  refine (hpre w1).mono ?_
  rintro e wp ⟨rfl, hwp⟩
  rw [hwp]
  clear hwp
  go_wp2_with fail
  refine (hCall w1 hbw).mono ?_
  rintro e w2 ⟨rfl, hZ2⟩
  dsimp only
  go_wp2_with fail
  go_end0
  exact ⟨rfl, hZ2⟩
set_option maxRecDepth 100000 in
set_option maxHeartbeats 8000000 in
theorem step_93 (w0 w : World) (pb : Nat) (s : List UInt8) (dv nv : Value) (m : Int) (a RES : Pa) (hZ : Pz w0 w pb s dv nv m a) (ha : a.at_ < s.length) (hc : (s.drop a.at_).headD 0 = 93)
    (hCall : ∀ W, Bl w W → Calls Tryz.prog 37 #[.pointer (some ⟨pb, 0, none⟩)] W fun e w' => e = .returned (.tuple #[]) ∧ Pz w0 w' pb s dv nv m RES) :
    Calls Tryz.prog 20 #[.pointer (some ⟨pb, 0, none⟩)] w fun e w' => e = .returned (.tuple #[]) ∧ Pz w0 w' pb s dv nv m RES := by
  obtain ⟨S, q, hq0, c0, c1, hby, hSe, hqe⟩ := step_setup hZ ha
  have hRS := fun W (hW : Bl w W) => rest_any w0 W pb s dv nv m a (hZ.more hW) (Nat.le_of_lt ha)
  have hpre := fun W => Tryz.strings_HasPrefix (mkB (s.drop a.at_)) ⟨#[33, 91]⟩ W
  rw [show (⟨#[33, 91]⟩ : ByteArray).data.toList = [33, 91] from rfl, mkB_data, no_bang (s.drop a.at_) (by rw [hc]; decide)] at hpre
  rw [hc] at hby
  have hby : ((S[q].toNat : Nat) : Int) = 93 := by rw [hby]; rfl
  have i1 : (q : Int) < (S.size : Int) := by omega
  have i2 : (0 : Int) ≤ (q : Int) := Int.natCast_nonneg _
  clear hSe hqe hc
  go_enter Tryz.func20, Tryz.ntmps20
  go_wp2_with fail
  go_quiet (fail)
  go_wp2_with fail
  refine (hRS _ ((Bl.refl w).drewN _)).mono ?_
  rintro e w1 ⟨rfl, hb1⟩
  dsimp only
  have hbw : Bl w w1 := ((Bl.refl w).drewN nq).trans hb1
  go_wp2_with fail
  refine (hpre w1).mono ?_
  rintro e wp ⟨rfl, hwp⟩
  rw [hwp]
  clear hwp
  go_wp2_with fail
  refine (hCall w1 hbw).mono ?_
  rintro e w2 ⟨rfl, hZ2⟩
  dsimp only
  go_wp2_with fail
  go_end0
  exact ⟨rfl, hZ2⟩
set_option maxRecDepth 100000 in
set_option maxHeartbeats 8000000 in
theorem step_10 (w0 w : World) (pb : Nat) (s : List UInt8) (dv nv : Value) (m : Int) (a RES : Pa) (hZ : Pz w0 w pb s dv nv m a) (ha : a.at_ < s.length) (hc : (s.drop a.at_).headD 0 = 10)
    (hCall : ∀ W, Bl w W → Calls Tryz.prog 38 #[.pointer (some ⟨pb, 0, none⟩)] W fun e w' => e = .returned (.tuple #[]) ∧ Pz w0 w' pb s dv nv m RES) :
    Calls Tryz.prog 20 #[.pointer (some ⟨pb, 0, none⟩)] w fun e w' => e = .returned (.tuple #[]) ∧ Pz w0 w' pb s dv nv m RES := by
  obtain ⟨S, q, hq0, c0, c1, hby, hSe, hqe⟩ := step_setup hZ ha
  have hRS := fun W (hW : Bl w W) => rest_any w0 W pb s dv nv m a (hZ.more hW) (Nat.le_of_lt ha)
  have hpre := fun W => Tryz.strings_HasPrefix (mkB (s.drop a.at_)) ⟨#[33, 91]⟩ W
  rw [show (⟨#[33, 91]⟩ : ByteArray).data.toList = [33, 91] from rfl, mkB_data, no_bang (s.drop a.at_) (by rw [hc]; decide)] at hpre
  rw [hc] at hby
  have hby : ((S[q].toNat : Nat) : Int) = 10 := by rw [hby]; rfl
  have i1 : (q : Int) < (S.size : Int) := by omega
  have i2 : (0 : Int) ≤ (q : Int) := Int.natCast_nonneg _
  clear hSe hqe hc
  go_enter Tryz.func20, Tryz.ntmps20
  go_wp2_with fail
  go_quiet (fail)
  go_wp2_with fail
  refine (hRS _ ((Bl.refl w).drewN _)).mono ?_
  rintro e w1 ⟨rfl, hb1⟩
  dsimp only
  have hbw : Bl w w1 := ((Bl.refl w).drewN nq).trans hb1
  go_wp2_with fail
  refine (hpre w1).mono ?_
  rintro e wp ⟨rfl, hwp⟩
  rw [hwp]
  clear hwp
  go_wp2_with fail
  refine (hCall w1 hbw).mono ?_
  rintro e w2 ⟨rfl, hZ2⟩
  dsimp only
  go_wp2_with fail
  go_end0
  exact ⟨rfl, hZ2⟩
set_option maxRecDepth 100000 in
set_option maxHeartbeats 8000000 in
theorem step_plainW (w0 w : World) (pb : Nat) (s : List UInt8) (dv nv : Value) (m : Int) (a RES : Pa) (hZ : Pz w0 w pb s dv nv m a) (ha : a.at_ < s.length) (hc : specialL.contains ((s.drop a.at_).headD 0) = false)
    (hCall : ∀ W, Bl w W → Calls Tryz.prog 39 #[.pointer (some ⟨pb, 0, none⟩)] W fun e w' => e = .returned (.tuple #[]) ∧ Pz w0 w' pb s dv nv m RES) :
    Calls Tryz.prog 20 #[.pointer (some ⟨pb, 0, none⟩)] w fun e w' => e = .returned (.tuple #[]) ∧ Pz w0 w' pb s dv nv m RES := by
  obtain ⟨S, q, hq0, c0, c1, hby, hSe, hqe⟩ := step_setup hZ ha
  have hRS := fun W (hW : Bl w W) => rest_any w0 W pb s dv nv m a (hZ.more hW) (Nat.le_of_lt ha)
  have hpre := fun W => Tryz.strings_HasPrefix (mkB (s.drop a.at_)) ⟨#[33, 91]⟩ W
  rw [show (⟨#[33, 91]⟩ : ByteArray).data.toList = [33, 91] from rfl, mkB_data, no_bang (s.drop a.at_) (by intro e; rw [e] at hc; exact absurd hc (by decide))] at hpre
  have hbn : ∀ c : Nat, c < 256 → specialL.contains (UInt8.ofNat c) = true → ((S[q].toNat : Int) == (c : Int)) = false := fun c hc1 hc2 => byte_neq _ c hc1 (by rw [hby]; intro e; rw [e, hc2] at hc; cases hc)
  have e92 : ((S[q].toNat : Int) == 92) = false := hbn 92 (by decide) (by decide)
  have e38 : ((S[q].toNat : Int) == 38) = false := hbn 38 (by decide) (by decide)
  have e96 : ((S[q].toNat : Int) == 96) = false := hbn 96 (by decide) (by decide)
  have e60 : ((S[q].toNat : Int) == 60) = false := hbn 60 (by decide) (by decide)
  have e42 : ((S[q].toNat : Int) == 42) = false := hbn 42 (by decide) (by decide)
  have e95 : ((S[q].toNat : Int) == 95) = false := hbn 95 (by decide) (by decide)
  have e126 : ((S[q].toNat : Int) == 126) = false := hbn 126 (by decide) (by decide)
  have e91 : ((S[q].toNat : Int) == 91) = false := hbn 91 (by decide) (by decide)
  have e93 : ((S[q].toNat : Int) == 93) = false := hbn 93 (by decide) (by decide)
  have e10 : ((S[q].toNat : Int) == 10) = false := hbn 10 (by decide) (by decide)
  have i1 : (q : Int) < (S.size : Int) := by omega
  have i2 : (0 : Int) ≤ (q : Int) := Int.natCast_nonneg _
  clear hSe hqe hc hbn hby
  go_enter Tryz.func20, Tryz.ntmps20
  go_wp2_with fail
  go_quiet (fail)
  go_wp2_with fail
  refine (hRS _ ((Bl.refl w).drewN _)).mono ?_
  rintro e w1 ⟨rfl, hb1⟩
  dsimp only
  have hbw : Bl w w1 := ((Bl.refl w).drewN nq).trans hb1
  go_wp2_with fail
  refine (hpre w1).mono ?_
  rintro e wp ⟨rfl, hwp⟩
  rw [hwp]
  clear hwp
  go_wp2_with fail
  refine (hCall w1 hbw).mono ?_
  rintro e w2 ⟨rfl, hZ2⟩
  dsimp only
  go_wp2_with fail
  go_end0
  exact ⟨rfl, hZ2⟩
end Go.Proofs.YtjocbifjmchbcaaGreatDoor
/- Tidy: parts with one Text where several stand side by side. -/
namespace Go.Proofs.YtjocbifjmchbcaaGreatDoor
open Go.RowKit

theorem mkB_app (a b : List UInt8) : mkB (a ++ b) = mkB a ++ mkB b := by
  apply str_eq
  simp [mkB]
theorem mkB_isEmpty (s : List UInt8) : (mkB s).toList.isEmpty = s.isEmpty := by rw [toList_eq, mkB_data]
/-- How many bytes a forest's own texts have; and all within it. -/
def chS : Fo → Nat
  | .nil => 0
  | .cons _ s _ _ r => s.length + chS r
def chT : Fo → Nat
  | .nil => 0
  | .cons _ s _ l r => s.length + chT l + chT r
theorem chS_le : ∀ f : Fo, chS f ≤ chT f
  | .nil => Nat.le_refl _
  | .cons _ s _ l r => by have := chS_le r; simp [chS, chT]; omega
theorem chT_drop : ∀ (f : Fo) (j : Nat), chT (f.drop j) ≤ chT f
  | f, 0 => Nat.le_refl _
  | .nil, j + 1 => Nat.le_refl _
  | .cons _ s _ l r, j + 1 => by have := chT_drop r j; simp [chT, Fo.drop]; omega
theorem chS_snoc (k : Nat) (s t : List UInt8) (l : Fo) : ∀ f : Fo, chS (f.snoc k s t l) = chS f + s.length
  | .nil => by simp [Fo.snoc, Fo.app, Fo.one, chS]
  | .cons k0 s0 t0 l0 r => by rw [snoc_cons, chS, chS, chS_snoc k s t l r]; omega
theorem chS_lay (out : Fo) (k : Nat) (s t : List UInt8) (l : Fo) : chS (out.lay k s t l) = chS out + s.length := by
  have nil_of : s.isEmpty = true → s.length = 0 := fun h => by rw [List.isEmpty_iff.1 h]; rfl
  rcases Fo.snoc_cases out with rfl | ⟨g, k0, s0, t0, l0, rfl⟩
  · rw [lay_nil]
    split
    · rename_i h
      rw [Bool.and_eq_true] at h
      rw [nil_of h.2]; rfl
    · simp [Fo.one, chS]
  · rw [lay_snoc]
    split
    · split
      · rename_i h
        rw [nil_of h]; rfl
      · split
        · rw [chS_snoc, chS_snoc, List.length_append]; omega
        · rw [chS_snoc]
    · rw [chS_snoc]
theorem chS_tidyOn : ∀ (f out : Fo), chS (out.tidyOn f) = chS out + chS f
  | .nil, out => rfl
  | .cons k s t l r, out => by rw [tidyOn_cons, chS_tidyOn r, chS_lay, chS]; omega
def TidyAt (f : Fo) : Prop := ∀ (w : World) (L : List Nat) (v : Value), Rep w [] v f → (∀ x ∈ L, x < w.heap.size) → Calls Tryz.prog 18 #[v] w fun e w' => ∃ v', e = .returned v' ∧ Rep w' L v' (tidyL f) ∧ Bl w w'
set_option maxRecDepth 100000 in
set_option maxHeartbeats 16000000 in
theorem tidy_step (f : Fo) (hbig : f.sz ≤ 1000000) (hch : chT f ≤ 100000000) (ih : ∀ l : Fo, l.sz < f.sz → chT l ≤ 100000000 → TidyAt l) : TidyAt f := by
  intro w L v hR hL
  obtain ⟨iq, hiq, hqz, hqs, hqb⟩ := info_parts infoNode
  obtain ⟨vo, vc, rfl⟩ := hR.slice
  have hlen := Fo.len_sz f
  obtain ⟨fl, hfl⟩ : ∃ fl, f.len = fl := ⟨_, rfl⟩
  rw [hfl] at hlen
  obtain ⟨R, hRd⟩ : ∃ R, tidyL f = R := ⟨_, rfl⟩
  have hRch : chS R ≤ 100000000 := by
    rw [← hRd]
    unfold tidyL
    rw [chS_tidyOn]
    have := chS_le f
    simp [chS]; omega
  rw [hRd]
  have hRd := Lib.hid hRd
  rw [hfl] at hR ⊢
  go_enter Tryz.func18, Tryz.ntmps18
  go_wp2_with fail
  go_loopw [3, 9] (fun v3 v9 wr => ∃ (j : Nat) (out : Fo) (xs : List Value) (oo : Option Addr) (cc : Nat), j ≤ fl ∧ v9 = .int .i64 (j : Int) ∧ v3 = .slice oo out.len cc ∧ TO w wr L (.slice oo out.len cc) out xs ∧ Hid (out.tidyOn (f.drop j) = R) ∧ out.len ≤ j) (fun _ v9 _ => fl - (intOf v9).toNat)
  case atStart => exact ⟨0, .nil, [], none, 0, Nat.zero_le _, rfl, rfl, TO.first w w L (Bl.refl w) hL, hRd, Nat.zero_le _⟩
  case round =>
    obtain ⟨j, out, xs, oo, cc, hj, rfl, rfl, hT, hrel, hol⟩ := hrel
    by_cases hjn : j < fl
    · have hRr := hR.bl hT.bl
      obtain ⟨b, o, c, k, s, t, l, vl, hv, hdr, hcells, hRl, hsz⟩ := hRr.get (j := j) (by rw [hfl]; exact hjn)
      rw [hfl] at hv
      cases hv
      obtain ⟨lo, lc, rfl⟩ := hRl.slice
      have i0 : (0 : Int) ≤ (j : Int) := Int.natCast_nonneg _
      have i1 : (j : Int) < (fl : Int) := by omega
      have c0 := hcells 0 _ rfl; have c1 := hcells 1 _ rfl; have c2 := hcells 2 _ rfl; have c3 := hcells 3 _ rfl; have c4 := hcells 4 _ rfl; have c5 := hcells 5 _ rfl; have c6 := hcells 6 _ rfl
      clear hcells
      simp only [Nat.add_zero, ← Nat.add_assoc] at c0 c1 c2 c3 c4 c5 c6
      go_upto_region 5 with fail
      have hbA : Bl wr (wr.alloc (.cells #[.int .i64 (k : Int), .string (mkB s), .string (mkB t), .int .i64 0, .int .i64 0, .bool false, .slice lo l.len lc] 27)) := (Bl.refl wr).alloc _
      have hnew := heap_alloc_new wr (.cells #[.int .i64 (k : Int), .string (mkB s), .string (mkB t), .int .i64 0, .int .i64 0, .bool false, .slice lo l.len lc] 27)
      have hszA : (wr.alloc (.cells #[.int .i64 (k : Int), .string (mkB s), .string (mkB t), .int .i64 0, .int .i64 0, .bool false, .slice lo l.len lc] 27)).heap.size = wr.heap.size + 1 := by simp
      obtain ⟨wA, hwA⟩ : ∃ wA, wr.alloc (.cells #[.int .i64 (k : Int), .string (mkB s), .string (mkB t), .int .i64 0, .int .i64 0, .bool false, .slice lo l.len lc] 27) = wA := ⟨_, rfl⟩
      obtain ⟨nb, hnb⟩ : ∃ nb, wr.heap.size = nb := ⟨_, rfl⟩
      rw [hwA] at hbA hnew hszA ⊢
      rw [hnb] at hnew hszA ⊢
      have hnb := Lib.hid hnb
      have hszA := Lib.hid hszA
      clear hwA
      have hTk : TO w wA (nb :: L) (.slice oo out.len cc) out xs := hT.know hbA (by rw [hnb.out]; exact Nat.le_refl _) (by rw [hszA.out]; omega)
      have hchl : chT l ≤ 100000000 ∧ s.length + chS (f.drop (j + 1)) = chS (f.drop j) := by
        have h1 := chT_drop f j
        rw [hdr] at h1 ⊢
        simp only [chT] at h1
        exact ⟨by omega, by rw [chS]⟩
      have hIH := ih l hsz hchl.1 wA (nb :: (ownL (.slice oo out.len cc) ++ L)) _ (hRl.bl hbA) (fun x hx => by
        rcases List.mem_cons.1 hx with rfl | hx
        · rw [hszA.out]; omega
        · rcases List.mem_append.1 hx with hx | hx
          · have := (hTk.row.lt x (mem_ownL.1 hx)).2; exact this
          · exact hTk.lt x (List.mem_cons_of_mem _ hx))
      have n6 : wA.cell? ⟨nb, 6, none⟩ = some (.slice lo l.len lc) := by rw [Lib.cell_of_heap hnew]; rfl
      go_wp2_with fail
      refine hIH.mono ?_
      rintro e wB ⟨vt, rfl, hRt, hbB⟩
      dsimp only
      obtain ⟨ta, tc, rfl⟩ := hRt.slice
      have hnewB := (hbB.block (heap_lt hnew)).trans hnew
      have k6 : wB.cell? ⟨nb, 6, none⟩ = some (.slice lo l.len lc) := by rw [Lib.cell_of_heap hnewB]; rfl
      have z6 : wB.frozen? ⟨nb, 6, none⟩ = false := Lib.frozen_of_heap hnewB 6
      have hTB := (hTk.more hbB).set (nb := nb) List.mem_cons_self (by rw [← hnb.out]; exact hT.bl.size) 6 (.slice ta (tidyL l).len tc)
      have hRB : Rep (wB.setCell ⟨nb, 6, none⟩ (.slice ta (tidyL l).len tc)) (nb :: (ownL (.slice oo out.len cc) ++ L)) (.slice ta (tidyL l).len tc) (tidyL l) := hRt.more (Fr.set (nb :: (ownL (.slice oo out.len cc) ++ L)) wB ⟨nb, 6, none⟩ (.slice ta (tidyL l).len tc) (.inl List.mem_cons_self)) (fun x hx => .inl hx)
      have hnewC : (wB.setCell ⟨nb, 6, none⟩ (.slice ta (tidyL l).len tc)).heap[nb]? = some (.cells #[.int .i64 (k : Int), .string (mkB s), .string (mkB t), .int .i64 0, .int .i64 0, .bool false, .slice ta (tidyL l).len tc] 27 (0, 0)) := by
        simp [World.setCell, Array.getElem?_modify, hnewB]
      go_upto_region 6 with fail
      obtain ⟨wC, hwC⟩ : ∃ wC, wB.setCell ⟨nb, 6, none⟩ (.slice ta (tidyL l).len tc) = wC := ⟨_, rfl⟩
      rw [hwC] at hTB hRB hnewC ⊢
      clear hwC
      have m0 : wC.cell? ⟨nb, 0, none⟩ = some (.int .i64 (k : Int)) := by rw [Lib.cell_of_heap hnewC]; rfl
      have m1 : wC.cell? ⟨nb, 1, none⟩ = some (.string (mkB s)) := by rw [Lib.cell_of_heap hnewC]; rfl
      have m2 : wC.cell? ⟨nb, 2, none⟩ = some (.string (mkB t)) := by rw [Lib.cell_of_heap hnewC]; rfl
      have m3 : wC.cell? ⟨nb, 3, none⟩ = some (.int .i64 0) := by rw [Lib.cell_of_heap hnewC]; rfl
      have m4 : wC.cell? ⟨nb, 4, none⟩ = some (.int .i64 0) := by rw [Lib.cell_of_heap hnewC]; rfl
      have m5 : wC.cell? ⟨nb, 5, none⟩ = some (.bool false) := by rw [Lib.cell_of_heap hnewC]; rfl
      have m6 : wC.cell? ⟨nb, 6, none⟩ = some (.slice ta (tidyL l).len tc) := by rw [Lib.cell_of_heap hnewC]; rfl
      have hperm : ∀ x ∈ ownL (.slice oo out.len cc) ++ (nb :: L), x ∈ nb :: (ownL (.slice oo out.len cc) ++ L) ∨ wC.heap.size ≤ x := fun x hx => by
        left
        rcases List.mem_append.1 hx with hx | hx
        · exact List.mem_cons_of_mem _ (List.mem_append_left _ hx)
        · rcases List.mem_cons.1 hx with rfl | hx
          · exact List.mem_cons_self
          · exact List.mem_cons_of_mem _ (List.mem_append_right _ hx)
      have hnext : ∀ g : Fo, out.lay k s t (tidyL l) = g → g.tidyOn (f.drop (j + 1)) = R := fun g hg => by
        have := hrel.out
        rw [hdr, tidyOn_cons, hg] at this
        exact this
      clear hrel
      have hrow := hTB.row
      have hgen := hTB.bl.size
      obtain ⟨ol, hO⟩ : ∃ ol, out.len = ol := ⟨_, rfl⟩
      rw [hO] at hrow hTB hRB hol hperm ⊢
      have hO := Lib.hid hO
      have hes := mkB_isEmpty s
      cases h14 : ((k : Int) != 14) with
      | true =>
        have hk14 : (k == 14) = false := by
          rw [beq_eq_false_iff_ne]; rintro rfl; exact absurd h14 (by decide)
        have HLAY : out.lay k s t (tidyL l) = out.snoc k s t (tidyL l) := by
          rcases Fo.snoc_cases out with rfl | ⟨g, k0, s0, t0, l0, rfl⟩
          · rw [lay_nil, hk14]; rfl
          · rw [lay_snoc, if_neg (by rw [hk14]; decide)]
        have HLAY := Lib.hid HLAY
        clear hk14 hes hdr
        go_wp2_with (at_builtin; go_loud (refine wpList_append_lies _ rfl _ _ 24 rfl w.heap.size 27 iq _ 7 88 Tryz.underlying24 hiq hqz hqs hqb rfl (by omega) (.slice oo ol cc) ol _ rfl (hrow.alloc _) ⟨wC.heap.size, 0, none⟩ 1 1 [.int .i64 (k : Int), .string (mkB s), .string (mkB t), .int .i64 0, .int .i64 0, .bool false, .slice ta (tidyL l).len tc] rfl rfl (World.news_of_block (cs := #[.int .i64 (k : Int), .string (mkB s), .string (mkB t), .int .i64 0, .int .i64 0, .bool false, .slice ta (tidyL l).len tc]) (t := 27) (fr := (0, 0)) (heap_alloc_new wC _)) (by simp [Value.oneCell']) (by omega) (by unfold maxLen; omega) (by omega) (by simp; omega) (wC.heap.size + 1) (by simp) ?_; intro og ocap w7 hown7 hgrow7 hat7 hlt7))
        have hA := hTB.app (k := k) (s := s) (t := t) (l := tidyL l) (v := .slice ta (tidyL l).len tc) ((Bl.refl wC).alloc _) hgrow7 (by rw [hO.out]; exact hown7) (hat7.imp id (fun e => by simp; omega)) (hRB.more (Fr.of_bl _ ((Bl.refl wC).alloc _)) hperm)
        rw [hO.out] at hA
        have hT7 := hA.less
        refine ⟨⟨j + 1, out.snoc k s t (tidyL l), _, some ⟨og, 0, none⟩, ocap, by omega, by go_num, by rw [Fo.len_snoc, hO.out], by rw [Fo.len_snoc, hO.out]; exact hT7, Lib.hid (hnext _ HLAY.out), by rw [Fo.len_snoc, hO.out]; omega⟩, ?_⟩
        simp [intOf]; omega
      | false =>
        obtain rfl : k = 14 := by
          by_cases h : k = 14
          · exact h
          · exfalso
            have : ((k : Int) != 14) = true := by rw [bne_iff_ne]; omega
            rw [this] at h14; cases h14
        cases hse : s.isEmpty with
        | true =>
          rw [hse] at hes
          have HLAY : out.lay 14 s t (tidyL l) = out := by
            rcases Fo.snoc_cases out with rfl | ⟨g, k0, s0, t0, l0, rfl⟩
            · rw [lay_nil, hse]; rfl
            · rw [lay_snoc, if_pos (by decide), hse]; rfl
          have H2 := Lib.hid (hnext _ HLAY)
          clear HLAY hnext hdr hse
          go_wp2_with fail
          go_roundw
          case rel => exact ⟨j + 1, out, xs, oo, cc, by omega, by go_num, by rw [hO.out], by rw [hO.out]; exact hTB.less, H2, by rw [hO.out]; omega⟩
          case measure => simp [intOf]; omega
        | false =>
          rw [hse] at hes
          rcases Fo.snoc_cases out with rfl | ⟨g, k0, s0, t0, l0, rfl⟩
          · have HLAY : Fo.nil.lay 14 s t (tidyL l) = Fo.nil.snoc 14 s t (tidyL l) := by rw [lay_nil, hse]; rfl
            have HLAY := Lib.hid HLAY
            obtain rfl : ol = 0 := hO.out.symm
            clear hdr hse
            go_wp2_with (at_builtin; go_loud (refine wpList_append_lies _ rfl _ _ 24 rfl w.heap.size 27 iq _ 7 88 Tryz.underlying24 hiq hqz hqs hqb rfl (by omega) (.slice oo 0 cc) 0 _ rfl (hrow.alloc _) ⟨wC.heap.size, 0, none⟩ 1 1 [.int .i64 14, .string (mkB s), .string (mkB t), .int .i64 0, .int .i64 0, .bool false, .slice ta (tidyL l).len tc] rfl rfl (World.news_of_block (cs := #[.int .i64 14, .string (mkB s), .string (mkB t), .int .i64 0, .int .i64 0, .bool false, .slice ta (tidyL l).len tc]) (t := 27) (fr := (0, 0)) (heap_alloc_new wC _)) (by simp [Value.oneCell']) (by omega) (by unfold maxLen; omega) (by omega) (by simp; omega) (wC.heap.size + 1) (by simp) ?_; intro og ocap w7 hown7 hgrow7 hat7 hlt7))
            have hA := hTB.app (k := 14) (s := s) (t := t) (l := tidyL l) (v := .slice ta (tidyL l).len tc) ((Bl.refl wC).alloc _) hgrow7 (by rw [hO.out]; exact hown7) (hat7.imp id (fun e => by simp; omega)) (hRB.more (Fr.of_bl _ ((Bl.refl wC).alloc _)) hperm)
            rw [hO.out] at hA
            have hT7 := hA.less
            refine ⟨⟨j + 1, Fo.nil.snoc 14 s t (tidyL l), _, some ⟨og, 0, none⟩, ocap, by omega, by go_num, by rw [Fo.len_snoc, hO.out], by rw [Fo.len_snoc, hO.out]; exact hT7, Lib.hid (hnext _ HLAY.out), by rw [Fo.len_snoc, hO.out]; omega⟩, ?_⟩
            simp [intOf]; omega
          · obtain ⟨gl, hgl⟩ : ∃ gl, g.len = gl := ⟨_, rfl⟩
            have hO2 := hO.out
            rw [Fo.len_snoc, hgl] at hO2
            subst hO2
            obtain ⟨gb, gcap, hgv, _, hgb⟩ := hrow.form (by omega)
            cases hgv
            obtain ⟨ys, v0, hxs, hny, hR0⟩ := hTB.nc.snoc_inv
            have hyl : ys.length = gl * 7 := by rw [hny.length, hgl]; omega
            have hrow2 := hrow
            rw [hxs, nodeV] at hrow2
            obtain ⟨⟨d0, d1, _⟩, dz⟩ := row_last hrow2 hyl
            have dz1 := dz (gl * 7 + 1)
            clear hrow2 dz
            have g0 : (0 : Int) ≤ (gl : Int) := Int.natCast_nonneg _
            have g1 : (gl : Int) < (gl : Int) + 1 := by omega
            have g2 : decide ((0 : Int) ≤ (gl : Int)) = true := decide_eq_true g0
            cases h0 : ((k0 : Int) == 14) with
            | false =>
              have hk0 : (k0 == 14) = false := by
                rw [beq_eq_false_iff_ne]; rintro rfl; exact absurd h0 (by decide)
              have HLAY : (g.snoc k0 s0 t0 l0).lay 14 s t (tidyL l) = (g.snoc k0 s0 t0 l0).snoc 14 s t (tidyL l) := by
                rw [lay_snoc, if_pos (by decide), hse, hk0]; rfl
              have HLAY := Lib.hid HLAY
              clear hdr hse hk0 hxs hgl
              go_wp2_with (at_builtin; go_loud (refine wpList_append_lies _ rfl _ _ 24 rfl w.heap.size 27 iq _ 7 88 Tryz.underlying24 hiq hqz hqs hqb rfl (by omega) (.slice (some ⟨gb, 0, none⟩) (gl + 1) cc) (gl + 1) _ rfl (hrow.alloc _) ⟨wC.heap.size, 0, none⟩ 1 1 [.int .i64 14, .string (mkB s), .string (mkB t), .int .i64 0, .int .i64 0, .bool false, .slice ta (tidyL l).len tc] rfl rfl (World.news_of_block (cs := #[.int .i64 14, .string (mkB s), .string (mkB t), .int .i64 0, .int .i64 0, .bool false, .slice ta (tidyL l).len tc]) (t := 27) (fr := (0, 0)) (heap_alloc_new wC _)) (by simp [Value.oneCell']) (by omega) (by unfold maxLen; omega) (by omega) (by simp; omega) (wC.heap.size + 1) (by simp) ?_; intro og ocap w7 hown7 hgrow7 hat7 hlt7))
              have hA := hTB.app (k := 14) (s := s) (t := t) (l := tidyL l) (v := .slice ta (tidyL l).len tc) ((Bl.refl wC).alloc _) hgrow7 (by rw [hO.out]; exact hown7) (hat7.imp id (fun e => by simp; omega)) (hRB.more (Fr.of_bl _ ((Bl.refl wC).alloc _)) hperm)
              rw [hO.out] at hA
              have hT7 := hA.less
              refine ⟨⟨j + 1, (g.snoc k0 s0 t0 l0).snoc 14 s t (tidyL l), _, some ⟨og, 0, none⟩, ocap, by omega, by go_num, by rw [Fo.len_snoc, hO.out], by rw [Fo.len_snoc, hO.out]; exact hT7, Lib.hid (hnext _ HLAY.out), by rw [Fo.len_snoc, hO.out]; omega⟩, ?_⟩
              simp [intOf]; omega
            | true =>
              obtain rfl : k0 = 14 := by have := of_decide_eq_true h0; omega
              have H2 := Lib.hid (hnext (g.snoc 14 (s0 ++ s) t0 l0) (by rw [lay_snoc, if_pos (by decide), hse]; rfl))
              have hcat : (mkB s0).size + (mkB s).size ≤ 9223372036854775807 := by
                rw [mkB_size, mkB_size]
                have a1 := congrArg chS (hnext _ rfl)
                rw [chS_tidyOn, chS_lay, chS_snoc] at a1
                omega
              have hcat := Nat.not_lt.2 hcat
              have hTd := hTB.more (Bl.refl wC).drew
              rw [hxs, ← hgl] at hTd
              have hTt := TO.turn hTd (by rw [hyl]; omega) (hny.more (Fr.drew _ wC) (fun x hx => .inl (by rw [hgl] at hx; exact hx))) (hR0.more (Fr.drew _ wC) (fun x hx => .inl (by rw [hgl] at hx; exact hx))) (s0 ++ s)
              rw [mkB_app, hgl] at hTt
              have HG := Lib.hid hgl
              have HOL := Lib.hid hol
              have HJ := Lib.hid hjn
              clear hdr hse hnext hTd hxs hgl
              go_upto_region 12 with fail
              have hHeld : (fun w' : World => w'.cell? ⟨gb, gl * 7 + 1, none⟩ = some (.string (mkB s0)) ∧ w'.cell? ⟨nb, 1, none⟩ = some (.string (mkB s))) wC.drew := ⟨d1, m1⟩
              refine wp_region_n (fun w' : World => w'.cell? ⟨gb, gl * 7 + 1, none⟩ = some (.string (mkB s0)) ∧ w'.cell? ⟨nb, 1, none⟩ = some (.string (mkB s))) [0, 1, 2, 3, 4, 5, 6, 7, 8, 9] (by kernel_rfl) ?_
              refine wpAnyN_take (i := 0) (v := ?rv1) rfl (by kernel_rfl) (by kernel_rfl) (by kernel_rfl) (by kernel_rfl) (by kernel_rfl) (fun _ _ _ h => h) (Or.inl ⟨by rfl, ?rh1⟩) hHeld ?_
              case rh1 => (intro w hSw; (try dsimp only at hSw); go_simp; try with_reducible rfl)
              refine wpAnyN_take (i := 1) (v := ?rv2) rfl (by kernel_rfl) (by kernel_rfl) (by kernel_rfl) (by kernel_rfl) (by kernel_rfl) (fun _ _ _ h => h) (Or.inl ⟨by rfl, ?rh2⟩) hHeld ?_
              case rh2 => (intro w hSw; (try dsimp only at hSw); go_simp; try with_reducible rfl)
              refine wpAnyN_take (i := 2) (v := ?rv3) rfl (by kernel_rfl) (by kernel_rfl) (by kernel_rfl) (by kernel_rfl) (by kernel_rfl) (fun _ _ _ h => h) (Or.inl ⟨by rfl, ?rh3⟩) hHeld ?_
              case rh3 => (intro w hSw; (try dsimp only at hSw); go_simp; try with_reducible rfl)
              refine wpAnyN_take (i := 3) (v := ?rv4) rfl (by kernel_rfl) (by kernel_rfl) (by kernel_rfl) (by kernel_rfl) (by kernel_rfl) (fun _ _ _ h => h) (Or.inl ⟨by rfl, ?rh4⟩) hHeld ?_
              case rh4 => (intro w hSw; (try dsimp only at hSw); go_simp; try with_reducible rfl)
              refine wpAnyN_take (i := 4) (v := ?rv5) rfl (by kernel_rfl) (by kernel_rfl) (by kernel_rfl) (by kernel_rfl) (by kernel_rfl) (fun _ _ _ h => h) (Or.inl ⟨by rfl, ?rh5⟩) hHeld ?_
              case rh5 => (intro w hSw; (try dsimp only at hSw); go_simp; try with_reducible rfl)
              refine wpAnyN_take (i := 5) (v := ?rv6) rfl (by kernel_rfl) (by kernel_rfl) (by kernel_rfl) (by kernel_rfl) (by kernel_rfl) (fun _ _ _ h => h) (Or.inl ⟨by rfl, ?rh6⟩) hHeld ?_
              case rh6 => (intro w hSw; (try dsimp only at hSw); go_simp; try with_reducible rfl)
              refine wpAnyN_take (i := 6) (v := ?rv7) rfl (by kernel_rfl) (by kernel_rfl) (by kernel_rfl) (by kernel_rfl) (by kernel_rfl) (fun _ _ _ h => h) (Or.inl ⟨by rfl, ?rh7⟩) hHeld ?_
              case rh7 => (intro w hSw; (try dsimp only at hSw); go_simp; try with_reducible rfl)
              refine wpAnyN_take (i := 7) (v := ?rv8) rfl (by kernel_rfl) (by kernel_rfl) (by kernel_rfl) (by kernel_rfl) (by kernel_rfl) (fun _ _ _ h => h) (Or.inl ⟨by rfl, ?rh8⟩) hHeld ?_
              case rh8 => (intro w hSw; (try dsimp only at hSw); go_simp; try with_reducible rfl)
              refine wpAnyN_take (i := 8) (v := ?rv9) rfl (by kernel_rfl) (by kernel_rfl) (by kernel_rfl) (by kernel_rfl) (by kernel_rfl) (fun _ _ _ h => h) (Or.inl ⟨by rfl, ?rh9⟩) hHeld ?_
              case rh9 => (intro w hSw; (try dsimp only at hSw); go_simp; try with_reducible rfl)
              refine wpAnyN_take (i := 9) (v := ?rv10) rfl (by kernel_rfl) (by kernel_rfl) (by kernel_rfl) (by kernel_rfl) (by kernel_rfl) (fun _ _ _ h => h) (Or.inl ⟨by rfl, ?rh10⟩) hHeld ?_
              case rh10 => (intro w hSw; (try dsimp only at hSw); go_simp; try with_reducible rfl)
              refine wpAnyN_ready (rs := [10]) (by kernel_rfl) (by simp) ?_
              refine AllN.cons rfl (fun K rK11 => ?_) ?_
              · go_simp
                refine rK11.out _ _ (not_early (by kernel_rfl)) ?_
                clear rK11 K
                refine wpAnyN_done (by kernel_rfl) ?_ _
                go_wp2_with fail
                go_roundw
                case rel => exact ⟨j + 1, g.snoc 14 (s0 ++ s) t0 l0, _, some ⟨gb, 0, none⟩, cc, by omega, by go_num, by rw [Fo.len_snoc, HG.out], by rw [Fo.len_snoc, HG.out]; exact hTt.less, H2, by rw [Fo.len_snoc, HG.out]; have := HOL.out; omega⟩
                case measure => simp [intOf]; omega
              exact AllN.nil
    · obtain rfl : j = fl := by omega
      have hfin : out = R := by
        have := hrel.out
        rw [← hfl, Fo.drop_len] at this
        exact this
      have hX : Rep wr L (.slice oo out.len cc) R := by
        rw [← hfin]
        exact Rep.of_row hT.row (hT.nc.more (Fr.refl _ _) (fun x hx => .inl (List.mem_append_right _ hx))) hT.no
      have hbl := hT.bl
      have hX := Lib.hid hX
      clear hfin hrel hRd hT
      go_wp2_with fail
      go_ret
      exact ⟨_, rfl, hX.out, hbl⟩
theorem tidy_any : ∀ (N : Nat) (f : Fo), f.sz ≤ N → f.sz ≤ 1000000 → chT f ≤ 100000000 → TidyAt f := by
  intro N
  induction N with
  | zero =>
    intro f h hb hc
    exact tidy_step f hb hc (fun l hl => by omega)
  | succ N ih =>
    intro f h hb hc
    exact tidy_step f hb hc (fun l hl hcl => ih l (by omega) (by omega) hcl)
end Go.Proofs.YtjocbifjmchbcaaGreatDoor
/- inline.Parse, along the states that its steps go through. -/
namespace Go.Proofs.YtjocbifjmchbcaaGreatDoor
open Go.RowKit

def atOf (pb : Nat) (w : World) : Nat := match w.cell? ⟨pb, 1, none⟩ with
  | some (.int _ n) => n.toNat
  | _ => 0
theorem Pz.first (w : World) (s : List UInt8) (da na : Option Addr) (dn dc nn nc : Nat) (m : Int) :
    Pz w (w.alloc (.cells #[.string (mkB s), .int .i64 0, .slice none 0 0, .slice da dn dc, .slice na nn nc, .int .i64 m] 46)) w.heap.size s (.slice da dn dc) (.slice na nn nc) m ⟨0, []⟩ :=
  ⟨⟨none, 0, [], heap_alloc_new w _, World.ownsRow_nil _ _ _ _, PcR.nil _ _⟩, Nat.le_refl _, (Bl.refl w).alloc _⟩
set_option maxRecDepth 100000 in
set_option maxHeartbeats 4000000 in
theorem parse_chain (w : World) (s : List UInt8) (hs : s.length ≤ 1000000) (da na : Option Addr) (dn dc nn nc : Nat) (m : Int) (N : Nat) (sts : Nat → Pa) (h0 : sts 0 = ⟨0, []⟩) (hN : (sts N).at_ = s.length) (hinc : ∀ i, i < N → (sts i).at_ < (sts (i + 1)).at_) (hlt : ∀ i, i < N → (sts i).at_ < s.length)
    (hstep : ∀ i, i < N → ∀ W pb, Pz w W pb s (.slice da dn dc) (.slice na nn nc) m (sts i) → Calls Tryz.prog 20 #[.pointer (some ⟨pb, 0, none⟩)] W fun e w' => e = .returned (.tuple #[]) ∧ Pz w w' pb s (.slice da dn dc) (.slice na nn nc) m (sts (i + 1)))
    (hw : wgt (sts N).l ≤ 100000) (hc : ∀ r, Pc.run r ∈ (sts N).l → r.c.toNat < 128) (hsz : (nodesL (sts N).l).sz ≤ 1000000) (hch : chT (nodesL (sts N).l) ≤ 100000000) :
    Calls Tryz.prog 11 #[.string (mkB s), .slice da dn dc, .slice na nn nc, .int .i64 m] w fun e w' => ∃ v, e = .returned v ∧ Rep w' [] v (tidyL (nodesL (sts N).l)) ∧ Bl w w' := by
  have hF := Pz.first w s da na dn dc nn nc m
  rw [← h0] at hF
  have hss := mkB_size s
  go_enter Tryz.func11, Tryz.ntmps11
  go_wp2_with fail
  obtain ⟨w1, hw1⟩ : ∃ w1, w.alloc (.cells #[.string (mkB s), .int .i64 0, .slice none 0 0, .slice da dn dc, .slice na nn nc, .int .i64 m] 46) = w1 := ⟨_, rfl⟩
  obtain ⟨pb, hpb⟩ : ∃ pb, w.heap.size = pb := ⟨_, rfl⟩
  rw [hw1] at hF ⊢
  rw [hpb] at hF ⊢
  clear hw1 hpb
  obtain ⟨L, hL⟩ : ∃ L, s.length = L := ⟨_, rfl⟩
  obtain ⟨S, hS⟩ : ∃ S, mkB s = S := ⟨_, rfl⟩
  rw [hS] at hss ⊢
  rw [hL] at hlt hN hs hss
  have HS := Lib.hid hS
  have HL := Lib.hid hL
  clear hS hL
  go_loopw [] (fun wr => ∃ i : Nat, i ≤ N ∧ Pz w wr pb s (.slice da dn dc) (.slice na nn nc) m (sts i)) (fun wr => L - atOf pb wr)
  case atStart => exact ⟨0, Nat.zero_le _, hF⟩
  case round =>
    obtain ⟨i, hi, hZ⟩ := hrel
    obtain ⟨lo, lc, xs, k1, k2, k3⟩ := hZ.ex
    have c1 : wr.cell? ⟨pb, 1, none⟩ = some (.int .i64 ((sts i).at_ : Int)) := by rw [Lib.cell_of_heap k1]; rfl
    have c2 : wr.cell? ⟨pb, 2, none⟩ = some (.slice lo (sts i).l.length lc) := by rw [Lib.cell_of_heap k1]; rfl
    have ha0 : atOf pb wr = (sts i).at_ := by unfold atOf; rw [c1]; rfl
    by_cases hiN : i < N
    · have hl := hlt i hiN
      have hn := hinc i hiN
      have hST := hstep i hiN wr pb hZ
      obtain ⟨q, hq⟩ : ∃ q, (sts i).at_ = q := ⟨_, rfl⟩
      rw [hq] at c1 hl hn ha0
      have e1 : decide (q < S.size) = true := decide_eq_true (by omega)
      have HSS := Lib.hid hss
      have HA := Lib.hid ha0
      clear ha0 hq c2 k1 k2 k3 hss
      go_wp2_with fail
      refine hST.mono ?_
      rintro e w2 ⟨rfl, hZ2⟩
      dsimp only
      go_wp2_with fail
      go_roundw
      case rel => exact ⟨i + 1, by omega, hZ2⟩
      case measure =>
        obtain ⟨_, _, _, g1, _, _⟩ := hZ2.ex
        have : atOf pb w2 = (sts (i + 1)).at_ := by unfold atOf; rw [Lib.cell_of_heap g1]; rfl
        rw [HA.out, this]; omega
    · obtain rfl : i = N := by omega
      rw [hN] at c1
      have hP : Pcs wr lo (sts i).l := ⟨fun j p hp => by
        obtain ⟨b, z, e1, e2, _, e4⟩ := k3.pcs k2 0 j p (by rw [List.drop_zero]; exact hp)
        exact ⟨b, 0, z, e1, e2, e4⟩⟩
      have hND := nodes_any wr lo (sts i).l.length lc (sts i).l hP rfl hw hc
      have hbl := hZ.bl
      have e1 : decide (L < S.size) = false := decide_eq_false (by omega)
      obtain ⟨n, hn⟩ : ∃ n, (sts i).l.length = n := ⟨_, rfl⟩
      rw [hn] at c2 hND
      clear hss hn ha0 k1 k2 k3 hN hP
      go_wp2_with fail
      refine hND.mono ?_
      rintro e w2 ⟨v, rfl, hR, hb2⟩
      dsimp only
      go_wp2_with fail
      refine (tidy_any _ _ (Nat.le_refl _) hsz hch w2 [] v hR (fun x hx => absurd hx (by simp))).mono ?_
      rintro e w3 ⟨v3, rfl, hR3, hb3⟩
      dsimp only
      go_wp2_with fail
      go_ret
      exact ⟨_, rfl, hR3, (hbl.trans hb2).trans hb3⟩
end Go.Proofs.YtjocbifjmchbcaaGreatDoor
/- What can be read of parts. -/
namespace Go.Proofs.YtjocbifjmchbcaaGreatDoor
open Go.RowKit

def PlainAt (f : Fo) : Prop := ∀ (w0 w : World) (b : Nat) (acc : List UInt8) (v : Value), Rep w0 [] v f → Bd w0 w b acc → acc.length + (plainL f).length ≤ 100000000 → Calls Tryz.prog 26 #[.pointer (some ⟨b, 0, none⟩), v] w fun e w' => e = .returned (.tuple #[]) ∧ Bd w0 w' b (acc ++ plainL f)
theorem plainL_cons (k : Nat) (s t : List UInt8) (l r : Fo) : plainL (.cons k s t l r) = (if k == 14 || k == 17 then s else if k == 15 || k == 16 then [32] else []) ++ plainL l ++ plainL r := rfl
theorem k_eq (k c : Nat) : ((k : Int) == (c : Int)) = (k == c) := by rw [Bool.eq_iff_iff]; simp only [beq_iff_eq]; omega
set_option maxRecDepth 100000 in
set_option maxHeartbeats 4000000 in
theorem plain_step (f : Fo) (hbig : f.sz ≤ 1000000) (ih : ∀ l : Fo, l.sz < f.sz → PlainAt l) : PlainAt f := by
  intro w0 w b acc v hR hB hsz
  obtain ⟨vo, vc, rfl⟩ := hR.slice
  have hlen := Fo.len_sz f
  obtain ⟨fl, hfl⟩ : ∃ fl, f.len = fl := ⟨_, rfl⟩
  obtain ⟨R, hRd⟩ : ∃ R, acc ++ plainL f = R := ⟨_, rfl⟩
  have hRl : R.length ≤ 100000000 := by rw [← hRd, List.length_append]; exact hsz
  rw [hRd]
  have hRd := Lib.hid hRd
  rw [hfl] at hR hlen ⊢
  have hbw := hB.bl
  go_enter Tryz.func26, Tryz.ntmps26
  go_wp2_with fail
  go_loopw [8] (fun v8 wr => ∃ (j : Nat) (ac : List UInt8), j ≤ fl ∧ v8 = .int .i64 (j : Int) ∧ Bd w0 wr b ac ∧ Hid (ac ++ plainL (f.drop j) = R)) (fun v8 _ => fl - (intOf v8).toNat)
  case atStart => exact ⟨0, acc, Nat.zero_le _, rfl, hB, hRd⟩
  case round =>
    obtain ⟨j, ac, hj, rfl, hBr, hrel⟩ := hrel
    by_cases hjn : j < fl
    · obtain ⟨gb, o, c, k, s, t, l, vl, hv, hdr, hcells, hRl0, hsl⟩ := hR.get (j := j) (by rw [hfl]; exact hjn)
      rw [hfl] at hv
      cases hv
      obtain ⟨lo, lc, rfl⟩ := hRl0.slice
      have i0 : (0 : Int) ≤ (j : Int) := Int.natCast_nonneg _
      have i1 : (j : Int) < (fl : Int) := by omega
      have c0 := hBr.bl.cell (hcells 0 _ rfl); have c1 := hBr.bl.cell (hcells 1 _ rfl); have c2 := hBr.bl.cell (hcells 2 _ rfl); have c3 := hBr.bl.cell (hcells 3 _ rfl); have c4 := hBr.bl.cell (hcells 4 _ rfl); have c5 := hBr.bl.cell (hcells 5 _ rfl); have c6 := hBr.bl.cell (hcells 6 _ rfl)
      clear hcells
      simp only [Nat.add_zero, ← Nat.add_assoc] at c0 c1 c2 c3 c4 c5 c6
      have hrel2 := hrel.out
      rw [hdr, plainL_cons] at hrel2
      obtain ⟨p, hp⟩ : ∃ p, (if k == 14 || k == 17 then s else if k == 15 || k == 16 then [32] else []) = p := ⟨_, rfl⟩
      rw [hp] at hrel2
      have hlens : ac.length + p.length + (plainL l).length ≤ 100000000 := by
        have := congrArg List.length hrel2
        simp only [List.length_append] at this
        omega
      have H2 := Lib.hid (show (ac ++ p) ++ plainL l ++ plainL (f.drop (j + 1)) = R by rw [← hrel2]; simp)
      clear hrel hrel2 hdr
      have hbA : Bl wr (wr.alloc (.cells #[.int .i64 (k : Int), .string (mkB s), .string (mkB t), .int .i64 0, .int .i64 0, .bool false, .slice lo l.len lc] 27)) := (Bl.refl wr).alloc _
      have hnew := heap_alloc_new wr (.cells #[.int .i64 (k : Int), .string (mkB s), .string (mkB t), .int .i64 0, .int .i64 0, .bool false, .slice lo l.len lc] 27)
      go_upto_region 3 with fail
      have hBA := hBr.more hbA
      have hne : wr.heap.size ≠ b := fun e => by have := hBr.lt; omega
      obtain ⟨wA, hwA⟩ : ∃ wA, wr.alloc (.cells #[.int .i64 (k : Int), .string (mkB s), .string (mkB t), .int .i64 0, .int .i64 0, .bool false, .slice lo l.len lc] 27) = wA := ⟨_, rfl⟩
      obtain ⟨nb, hnb⟩ : ∃ nb, wr.heap.size = nb := ⟨_, rfl⟩
      rw [hwA] at hbA hnew hBA ⊢
      rw [hnb] at hnew hne ⊢
      clear hwA hnb
      have n0 : wA.cell? ⟨nb, 0, none⟩ = some (.int .i64 (k : Int)) := by rw [Lib.cell_of_heap hnew]; rfl
      have n1 : wA.cell? ⟨nb, 1, none⟩ = some (.string (mkB s)) := by rw [Lib.cell_of_heap hnew]; rfl
      have n6 : wA.cell? ⟨nb, 6, none⟩ = some (.slice lo l.len lc) := by rw [Lib.cell_of_heap hnew]; rfl
      have hw6 : ∀ W, Lib.OthersKept 5 (some b) wA W → W.cell? ⟨nb, 6, none⟩ = some (.slice lo l.len lc) := fun W hW => by
        have := hW nb _ hnew (fun e => hne (Option.some.inj e)) (fun c fz e => by cases e)
        rw [Lib.cell_of_heap this]; rfl
      have hIH := fun W (hW : Bd w0 W b (ac ++ p)) => ih l hsl w0 W b (ac ++ p) _ hRl0 hW (by rw [List.length_append]; exact hlens)
      have e14 := k_eq k 14
      have e15 := k_eq k 15
      have e16 := k_eq k 16
      have e17 := k_eq k 17
      cases h14 : (k == 14) with
      | true =>
        rw [h14] at e14 hp
        obtain rfl : s = p := hp
        clear e15 e16 e17
        have hws := bstr_any w0 wA b ac (mkB s) hBA (by rw [mkB_size]; omega)
        rw [mkB_data] at hws
        go_wp2_with fail
        refine hws.mono ?_
        rintro e wB ⟨rfl, hBB, hO⟩
        dsimp only
        have q6 := hw6 wB hO
        go_wp2_with fail
        refine (hIH wB hBB).mono ?_
        rintro e wC ⟨rfl, hBC⟩
        dsimp only
        go_wp2_with fail
        go_roundw
        case rel => exact ⟨j + 1, _, by omega, by go_num, hBC, H2⟩
        case measure => simp [intOf]; omega
      | false =>
        rw [h14] at e14 hp
        cases h17 : (k == 17) with
        | true =>
          rw [h17] at e17 hp
          obtain rfl : s = p := hp
          clear e15 e16
          have hws := bstr_any w0 wA b ac (mkB s) hBA (by rw [mkB_size]; omega)
          rw [mkB_data] at hws
          go_wp2_with fail
          refine hws.mono ?_
          rintro e wB ⟨rfl, hBB, hO⟩
          dsimp only
          have q6 := hw6 wB hO
          go_wp2_with fail
          refine (hIH wB hBB).mono ?_
          rintro e wC ⟨rfl, hBC⟩
          dsimp only
          go_wp2_with fail
          go_roundw
          case rel => exact ⟨j + 1, _, by omega, by go_num, hBC, H2⟩
          case measure => simp [intOf]; omega
        | false =>
          rw [h17] at e17 hp
          cases hx : (k == 15 || k == 16) with
          | true =>
            rw [hx] at hp
            obtain rfl : [32] = p := hp

            have hws := bbyte_any w0 wA b ac 32 32 rfl hBA (by simp at hlens; omega)
            cases h15 : (k == 15) with
            | true =>
              rw [h15] at e15
              clear e16
              go_wp2_with fail
              refine hws.mono ?_
              rintro e wB ⟨rfl, hBB, hO⟩
              dsimp only
              have q6 := hw6 wB hO
              go_wp2_with fail
              refine (hIH wB hBB).mono ?_
              rintro e wC ⟨rfl, hBC⟩
              dsimp only
              go_wp2_with fail
              go_roundw
              case rel => exact ⟨j + 1, _, by omega, by go_num, hBC, H2⟩
              case measure => simp [intOf]; omega
            | false =>
              rw [h15, Bool.false_or] at hx
              rw [h15] at e15
              rw [hx] at e16
              go_wp2_with fail
              refine hws.mono ?_
              rintro e wB ⟨rfl, hBB, hO⟩
              dsimp only
              have q6 := hw6 wB hO
              go_wp2_with fail
              refine (hIH wB hBB).mono ?_
              rintro e wC ⟨rfl, hBC⟩
              dsimp only
              go_wp2_with fail
              go_roundw
              case rel => exact ⟨j + 1, _, by omega, by go_num, hBC, H2⟩
              case measure => simp [intOf]; omega
          | false =>
            rw [hx] at hp
            obtain rfl : [] = p := hp
            rw [Bool.or_eq_false_iff] at hx
            rw [hx.1] at e15
            rw [hx.2] at e16
            clear hx
            go_wp2_with fail
            refine (hIH wA (by rw [List.append_nil]; exact hBA)).mono ?_
            rintro e wC ⟨rfl, hBC⟩
            dsimp only
            go_wp2_with fail
            go_roundw
            case rel => exact ⟨j + 1, _, by omega, by go_num, hBC, H2⟩
            case measure => simp [intOf]; omega
    · obtain rfl : j = fl := by omega
      have hfin : ac = R := by
        have := hrel.out
        rw [← hfl, Fo.drop_len] at this
        simpa [plainL] using this
      have hX := Lib.hid (show Bd w0 wr b R by rw [← hfin]; exact hBr)
      clear hfin hrel hRd
      go_wp2_with fail
      go_end0
      exact ⟨rfl, hX.out⟩
theorem plain_all : ∀ (N : Nat) (f : Fo), f.sz ≤ N → f.sz ≤ 1000000 → PlainAt f := by
  intro N
  induction N with
  | zero =>
    intro f h hb
    exact plain_step f hb (fun l hl => by omega)
  | succ N ih =>
    intro f h hb
    exact plain_step f hb (fun l hl => ih l (by omega) (by omega))
set_option maxHeartbeats 1000000 in
theorem plainF_any (w : World) (v : Value) (f : Fo) (hR : Rep w [] v f) (hbig : f.sz ≤ 1000000) (hlen : (plainL f).length ≤ 100000000) :
    Calls Tryz.prog 15 #[v] w fun e w' => e = .returned (.string (mkB (plainL f))) ∧ Bl w w' := by
  have hB := Bd.new (Bl.refl w)
  have hP := plain_all f.sz f (Nat.le_refl _) hbig w _ _ [] v hR hB (by simpa using hlen)
  rw [List.nil_append] at hP
  go_enter Tryz.func15, Tryz.ntmps15
  go_wp2_with fail
  refine hP.mono ?_
  rintro e w1 ⟨rfl, hB1⟩
  dsimp only
  go_wp2_with fail
  refine (bstring_any w w1 _ _ hB1).mono ?_
  rintro e w2 ⟨rfl, hB2, _⟩
  dsimp only
  go_wp2_with fail
  go_ret
  exact ⟨rfl, hB2.bl⟩
end Go.Proofs.YtjocbifjmchbcaaGreatDoor
/- The texts that awake parses. -/
namespace Go.Proofs.YtjocbifjmchbcaaGreatDoor
open Go.RowKit

theorem st_plain {w0 W : World} {pb : Nat} {s : List UInt8} {dv nv : Value} {m : Int} {a RES : Pa} (hZ : Pz w0 W pb s dv nv m a) (ha : a.at_ < s.length) (hs : s.length ≤ 1000000) (hl : a.l.length ≤ 1000000) (hok : AnyOk (s.drop (a.at_ + 1))) (hc : specialL.contains ((s.drop a.at_).headD 0) = false) (hr : plainP s a = RES) :
    Calls Tryz.prog 20 #[.pointer (some ⟨pb, 0, none⟩)] W fun e w' => e = .returned (.tuple #[]) ∧ Pz w0 w' pb s dv nv m RES :=
  step_plainW w0 W pb s dv nv m a RES hZ ha hc (fun W' hW' => by rw [← hr]; exact plain_any w0 W' pb s dv nv m a (hZ.more hW') ha hs hl hok)
theorem st_star {w0 W : World} {pb : Nat} {s : List UInt8} {dv nv : Value} {m : Int} {a RES : Pa} (hZ : Pz w0 W pb s dv nv m a) (hT : Lib.Utf8Tabs 0 1 w0) (ha : a.at_ < s.length) (hs : s.length ≤ 1000000) (hl : a.l.length ≤ 1000000) (hc : (s.drop a.at_).headD 0 = 42) (hr : signsL s 42 a = RES) :
    Calls Tryz.prog 20 #[.pointer (some ⟨pb, 0, none⟩)] W fun e w' => e = .returned (.tuple #[]) ∧ Pz w0 w' pb s dv nv m RES :=
  step_42 w0 W pb s dv nv m a RES hZ ha hc (fun W' hW' => by rw [← hr]; exact signs_any w0 W' pb s dv nv m a 42 (hZ.more hW') hT ha hs hl)
theorem st_open {w0 W : World} {pb : Nat} {s : List UInt8} {dv nv : Value} {m : Int} {a RES : Pa} (hZ : Pz w0 W pb s dv nv m a) (ha : a.at_ < s.length) (hs : s.length ≤ 1000000) (hl : a.l.length ≤ 1000000) (hc : (s.drop a.at_).headD 0 = 91) (hr : bracketL false a = RES) :
    Calls Tryz.prog 20 #[.pointer (some ⟨pb, 0, none⟩)] W fun e w' => e = .returned (.tuple #[]) ∧ Pz w0 w' pb s dv nv m RES :=
  step_91 w0 W pb s dv nv m a RES hZ ha hc (fun W' hW' => by rw [← hr]; exact bracket_any w0 W' pb s dv nv m a false (hZ.more hW') ha hs hl)

/-! ### "a *b*" -/
def awA : List UInt8 := [97, 32, 42, 98, 42]
def stA (i : Nat) : Pa := match i with
  | 0 => ⟨0, []⟩
  | 1 => ⟨2, [.text [97, 32]]⟩
  | 2 => ⟨3, [.text [97, 32], .run ⟨42, 1, true, false⟩]⟩
  | 3 => ⟨4, [.text [97, 32], .run ⟨42, 1, true, false⟩, .text [98]]⟩
  | _ => ⟨5, [.text [97, 32], .run ⟨42, 1, true, false⟩, .text [98], .run ⟨42, 1, false, true⟩]⟩
def foA : Fo := .cons 14 [97, 32] [] .nil (.one 18 [] [] (.one 14 [98] [] .nil))
theorem anyok_of (l : List UInt8) (h : l.all (fun b => decide (b.toNat < 128)) = true) : AnyOk l := .inr fun b hb => of_decide_eq_true (List.all_eq_true.1 h b hb)
set_option maxRecDepth 100000 in
theorem parseA (w : World) (hT : Lib.Utf8Tabs 0 1 w) : Calls Tryz.prog 11 #[.string ⟨#[97, 32, 42, 98, 42]⟩, .slice none 0 0, .slice none 0 0, .int .i64 0] w fun e w' => ∃ v, e = .returned v ∧ Rep w' [] v foA ∧ Bl w w' := by
  have h := parse_chain w awA (by decide) none none 0 0 0 0 0 4 stA rfl rfl (fun i hi => by match i, hi with | 0, _ => decide | 1, _ => decide | 2, _ => decide | 3, _ => decide) (fun i hi => by match i, hi with | 0, _ => decide | 1, _ => decide | 2, _ => decide | 3, _ => decide)
    (fun i hi W pb hZ => by
      match i, hi with
      | 0, _ => exact st_plain hZ (by decide) (by decide) (by decide) (anyok_of _ (by decide)) (by decide) (by kernel_rfl)
      | 1, _ => exact st_star hZ hT (by decide) (by decide) (by decide) (by decide) (by kernel_rfl)
      | 2, _ => exact st_plain hZ (by decide) (by decide) (by decide) (anyok_of _ (by decide)) (by decide) (by kernel_rfl)
      | 3, _ => exact st_star hZ hT (by decide) (by decide) (by decide) (by decide) (by kernel_rfl))
    (by decide) (fun r hr => by
      have : r = ⟨42, 1, true, false⟩ ∨ r = ⟨42, 1, false, true⟩ := by simpa [stA, Pc.text] using hr
      rcases this with rfl | rfl <;> decide) (by
      rw [show nodesL (stA 4).l = .cons 14 [97, 32] [] .nil (.cons 14 [] [] .nil (.cons 18 [] [] (.one 14 [98] [] .nil) (.one 14 [] [] .nil))) by kernel_rfl]; decide) (by
      rw [show nodesL (stA 4).l = .cons 14 [97, 32] [] .nil (.cons 14 [] [] .nil (.cons 18 [] [] (.one 14 [98] [] .nil) (.one 14 [] [] .nil))) by kernel_rfl]; decide)
  rw [show tidyL (nodesL (stA 4).l) = foA by kernel_rfl] at h
  exact h

/-! ### "**a*" -/
def awC : List UInt8 := [42, 42, 97, 42]
def stC (i : Nat) : Pa := match i with
  | 0 => ⟨0, []⟩
  | 1 => ⟨2, [.run ⟨42, 2, true, false⟩]⟩
  | 2 => ⟨3, [.run ⟨42, 2, true, false⟩, .text [97]]⟩
  | _ => ⟨4, [.run ⟨42, 2, true, false⟩, .text [97], .run ⟨42, 1, false, true⟩]⟩
def foC : Fo := .cons 14 [42] [] .nil (.one 18 [] [] (.one 14 [97] [] .nil))
set_option maxRecDepth 100000 in
theorem parseC (w : World) (hT : Lib.Utf8Tabs 0 1 w) : Calls Tryz.prog 11 #[.string ⟨#[42, 42, 97, 42]⟩, .slice none 0 0, .slice none 0 0, .int .i64 0] w fun e w' => ∃ v, e = .returned v ∧ Rep w' [] v foC ∧ Bl w w' := by
  have h := parse_chain w awC (by decide) none none 0 0 0 0 0 3 stC rfl rfl (fun i hi => by match i, hi with | 0, _ => decide | 1, _ => decide | 2, _ => decide) (fun i hi => by match i, hi with | 0, _ => decide | 1, _ => decide | 2, _ => decide)
    (fun i hi W pb hZ => by
      match i, hi with
      | 0, _ => exact st_star hZ hT (by decide) (by decide) (by decide) (by decide) (by kernel_rfl)
      | 1, _ => exact st_plain hZ (by decide) (by decide) (by decide) (anyok_of _ (by decide)) (by decide) (by kernel_rfl)
      | 2, _ => exact st_star hZ hT (by decide) (by decide) (by decide) (by decide) (by kernel_rfl))
    (by decide) (fun r hr => by
      have : r = ⟨42, 2, true, false⟩ ∨ r = ⟨42, 1, false, true⟩ := by simpa [stC, Pc.text] using hr
      rcases this with rfl | rfl <;> decide) (by
      rw [show nodesL (stC 3).l = .cons 14 [42] [] .nil (.cons 18 [] [] (.one 14 [97] [] .nil) (.one 14 [] [] .nil)) by kernel_rfl]; decide) (by
      rw [show nodesL (stC 3).l = .cons 14 [42] [] .nil (.cons 18 [] [] (.one 14 [97] [] .nil) (.one 14 [] [] .nil)) by kernel_rfl]; decide)
  rw [show tidyL (nodesL (stC 3).l) = foC by kernel_rfl] at h
  exact h

/-! ### "[x](/u)" -/
def awB : List UInt8 := [91, 120, 93, 40, 47, 117, 41]
def stB (i : Nat) : Pa := match i with
  | 0 => ⟨0, []⟩
  | 1 => ⟨1, [.op false true 1]⟩
  | 2 => ⟨2, [.op false true 1, .text [120]]⟩
  | _ => ⟨7, [.node 20 [47, 117] [] (.one 14 [120] [] .nil)]⟩
def foB : Fo := .one 20 [47, 117] [] (.one 14 [120] [] .nil)
def noEnt (_ : List UInt8) : List UInt8 × Nat := ([], 0)
set_option maxRecDepth 100000 in
theorem awTail (w : World) : Calls Tryz.prog 122 #[.string (mkB [40, 47, 117, 41])] w fun en w' => en = .returned (.tuple #[.string (mkB [47, 117]), .string (mkB []), .int .i64 ((4 : Nat) : Int)]) ∧ Bl w w' := by
  have hE : ∀ l : List UInt8, ∀ W, Bl w W → l.headD 0 = 38 → (∃ i j k, l = (([40, 47, 117, 41] : List UInt8).drop i |>.take j).drop k) → EntAt noEnt W l := by
    rintro l W hW h38 ⟨i, j, k, rfl⟩
    exfalso
    have h1 : ∀ b ∈ ((([40, 47, 117, 41] : List UInt8).drop i).take j).drop k, b ≠ 38 := fun b hb => by
      have := List.mem_of_mem_drop (List.mem_of_mem_take (List.mem_of_mem_drop hb))
      have h2 : ([40, 47, 117, 41] : List UInt8).all (· != 38) = true := by decide
      simpa using List.all_eq_true.1 h2 b this
    cases hl : ((([40, 47, 117, 41] : List UInt8).drop i).take j).drop k with
    | nil => rw [hl] at h38; exact absurd h38 (by decide)
    | cons b t =>
      rw [hl] at h38
      exact h1 b (by rw [hl]; exact List.mem_cons_self) h38
  have hz : lwhiteL (([40, 47, 117, 41] : List UInt8).drop (1 + lwhiteL (([40, 47, 117, 41] : List UInt8).drop 1) + (destL noEnt (([40, 47, 117, 41] : List UInt8).drop (1 + lwhiteL (([40, 47, 117, 41] : List UInt8).drop 1)))).2.1)) = 0 := by kernel_rfl
  have h := tail_no noEnt [40, 47, 117, 41] w (by decide) (fun i hi W hW => by
    refine dest_any noEnt (mkB (([40, 47, 117, 41] : List UInt8).drop i)) W (by rw [mkB_size, List.length_drop]; simp; omega) ?_ (fun l W' hW' h38 hl => ?_)
    · rw [mkB_data]
      have : i = 0 ∨ i = 1 ∨ i = 2 ∨ i = 3 ∨ i = 4 := by simp at hi; omega
      rcases this with rfl | rfl | rfl | rfl | rfl <;> decide
    · obtain ⟨j, k, rfl⟩ := hl
      exact hE _ W' (hW.trans hW') h38 ⟨i, k, j, rfl⟩) (fun hh => by have := hh.2; rw [hz] at this; exact absurd this (by decide))
  rw [show tailL noEnt [40, 47, 117, 41] = ([47, 117], [], 4) by kernel_rfl] at h
  exact h
set_option maxRecDepth 100000 in
theorem parseB (w : World) : Calls Tryz.prog 11 #[.string ⟨#[91, 120, 93, 40, 47, 117, 41]⟩, .slice none 0 0, .slice none 0 0, .int .i64 0] w fun e w' => ∃ v, e = .returned v ∧ Rep w' [] v foB ∧ Bl w w' := by
  have h := parse_chain w awB (by decide) none none 0 0 0 0 0 3 stB rfl rfl (fun i hi => by match i, hi with | 0, _ => decide | 1, _ => decide | 2, _ => decide) (fun i hi => by match i, hi with | 0, _ => decide | 1, _ => decide | 2, _ => decide)
    (fun i hi W pb hZ => by
      match i, hi with
      | 0, _ => exact st_open hZ (by decide) (by decide) (by decide) (by decide) (by kernel_rfl)
      | 1, _ => exact st_plain hZ (by decide) (by decide) (by decide) (anyok_of _ (by decide)) (by decide) (by kernel_rfl)
      | 2, _ =>
        refine step_93 w W pb awB _ _ 0 (stB 2) (stB 3) hZ (by decide) (by decide) (fun W' hW' => ?_)
        have hc := closes_link w W' pb awB (.slice none 0 0) (.slice none 0 0) 0 (stB 2) (hZ.more hW') (by decide) (fun r hr => by simp [stB, Pc.text] at hr) (by decide) (by decide) 0 false 1 (by kernel_rfl) (by decide) ⟨#[]⟩ ⟨#[]⟩ [47, 117] [] 4 (by decide)
          (fun W2 hW2 => note_no W2 pb _ (by decide)) (fun W2 hW2 => target_tail w W2 pb awB _ _ 0 (stB 2) ((hZ.more hW').more hW2) (by decide) (by decide) _ [47, 117] [] 4 (by decide) (fun W3 hW3 => awTail W3))
        rw [show (if false = true then Pa.add ⟨(stB 2).at_, (stB 2).l.take 0⟩ 21 [47, 117] [] (nodesL ((stB 2).l.drop (0 + 1))) (1 + 4) else Pa.add ⟨(stB 2).at_, killL ((stB 2).l.take 0)⟩ 20 [47, 117] [] (nodesL ((stB 2).l.drop (0 + 1))) (1 + 4)) = stB 3 by kernel_rfl] at hc
        exact hc)
    (by decide) (fun r hr => by simp [stB] at hr) (by
      rw [show nodesL (stB 3).l = foB by kernel_rfl]; decide) (by
      rw [show nodesL (stB 3).l = foB by kernel_rfl]; decide)
  rw [show tidyL (nodesL (stB 3).l) = foB by kernel_rfl] at h
  exact h
end Go.Proofs.YtjocbifjmchbcaaGreatDoor
/- The contract of the laws' awake. -/
namespace Go.Proofs.YtjocbifjmchbcaaGreatDoor
open Go.RowKit

theorem Rep.cellAt {w : World} {v : Value} {f : Fo} (h : Rep w [] v f) {n : Nat} (hn : f.len = n) {j : Nat} (hj : j < n) : ∃ b o c k s t l vl, v = .slice (some ⟨b, o, none⟩) n c ∧ f.drop j = .cons k s t l (f.drop (j + 1)) ∧ w.cell? ⟨b, o + j * 7, none⟩ = some (.int .i64 (k : Int)) ∧ w.cell? ⟨b, o + j * 7 + 1, none⟩ = some (.string (mkB s)) ∧ w.cell? ⟨b, o + j * 7 + 2, none⟩ = some (.string (mkB t)) ∧ w.cell? ⟨b, o + j * 7 + 6, none⟩ = some vl ∧ Rep w [] vl l := by
  obtain ⟨b, o, c, k, s, t, l, vl, h1, h2, h3, h4, _⟩ := h.get (j := j) (by omega)
  rw [hn] at h1
  exact ⟨b, o, c, k, s, t, l, vl, h1, h2, h3 0 _ rfl, by rw [Nat.add_assoc]; exact h3 1 _ rfl, by rw [Nat.add_assoc]; exact h3 2 _ rfl, by rw [Nat.add_assoc]; exact h3 6 _ rfl, h4⟩
set_option maxRecDepth 100000 in
set_option maxHeartbeats 4000000 in
theorem awake14_any (w : World) (hT : Lib.Utf8Tabs 0 1 w) : Calls Tryz.prog 10 #[] w fun e w' => e = .returned (.bool true) ∧ Bl w w' := by
  go_enter Tryz.func10, Tryz.ntmps10
  go_wp2_with fail
  refine (parseA w hT).mono ?_
  rintro e w1 ⟨va, rfl, hRA, hb1⟩
  dsimp only
  go_wp2_with fail
  refine (parseB w1).mono ?_
  rintro e w2 ⟨vb, rfl, hRB, hb2⟩
  dsimp only
  go_wp2_with fail
  refine (parseC w2 (tabs_more hT (hb1.trans hb2))).mono ?_
  rintro e w3 ⟨vc, rfl, hRC, hb3⟩
  dsimp only
  have hb23 := hb2.trans hb3
  have hRA3 := hRA.bl hb23
  have hRB3 := hRB.bl hb3
  have hP := plainF_any w3 va foA hRA3 (by decide) (by decide)
  rw [show plainL foA = [97, 32, 98] by kernel_rfl] at hP
  obtain ⟨ba, oa, ca, k0, s0, t0, l0, v0, ea, d0, _, a1, _⟩ := hRA3.cellAt (n := 2) rfl (j := 0) (by omega)
  obtain ⟨ba', oa', ca', k1, s1, t1, l1, v1, ea', d1, a7, _⟩ := hRA3.cellAt (n := 2) rfl (j := 1) (by omega)
  subst ea
  cases ea'
  obtain ⟨bb, ob, cb, k2, s2, t2, l2, v2, eb, d2, b0, b1, _⟩ := hRB3.cellAt (n := 1) rfl (j := 0) (by omega)
  subst eb
  obtain ⟨bc, oc, cc, k3, s3, t3, l3, v3, ec, d3, _, e1, _⟩ := hRC.cellAt (n := 2) rfl (j := 0) (by omega)
  subst ec
  cases d0; cases d1; cases d2; cases d3
  simp only [Nat.zero_mul, Nat.add_zero, Nat.one_mul] at a1 a7 b0 b1 e1
  replace hP : Calls Tryz.prog 15 #[.slice (some ⟨ba, oa, none⟩) 2 ca] w3 fun e w' => e = .returned (.string ⟨#[97, 32, 98]⟩) ∧ Bl w3 w' := hP
  replace a1 : w3.cell? ⟨ba, oa + 1, none⟩ = some (.string ⟨#[97, 32]⟩) := a1
  replace b1 : w3.cell? ⟨bb, ob + 1, none⟩ = some (.string ⟨#[47, 117]⟩) := b1
  replace e1 : w3.cell? ⟨bc, oc + 1, none⟩ = some (.string ⟨#[42]⟩) := e1
  replace a7 : w3.cell? ⟨ba, oa + 7, none⟩ = some (.int .i64 18) := a7
  replace b0 : w3.cell? ⟨bb, ob, none⟩ = some (.int .i64 20) := b0
  have hb := (hb1.trans hb2).trans hb3
  clear hRA hRB hRC hRA3 hRB3 hb1 hb2 hb3 hb23
  go_wp2_with fail
  refine hP.mono ?_
  rintro e w4 ⟨rfl, hb4⟩
  dsimp only
  go_wp2_with fail
  go_ret
  exact ⟨rfl, hb.trans hb4⟩
end Go.Proofs.YtjocbifjmchbcaaGreatDoor
/- Parse of a text between stars. -/
namespace Go.Proofs.YtjocbifjmchbcaaGreatDoor
open Go.RowKit

theorem snoc_of' (b : UInt8) (u : List UInt8) (h : ∀ x ∈ b :: u, Low x) : ∃ v c, b :: u = v ++ [c] ∧ Low c :=
  ⟨(b :: u).dropLast, (b :: u).getLast (by simp), (List.dropLast_concat_getLast (by simp)).symm, h _ (List.getLast_mem (l := b :: u) (by simp))⟩
def stE (k : Nat) (t : List UInt8) (r1 r2 : Rn) (i : Nat) : Pa := match i with
  | 0 => ⟨0, []⟩
  | 1 => ⟨k, [.run r1]⟩
  | 2 => ⟨k + t.length, [.run r1, .text t]⟩
  | _ => ⟨k + t.length + k, [.run r1, .text t, .run r2]⟩
theorem parse_sts (w : World) (hT : Lib.Utf8Tabs 0 1 w) (m : Int) (k : Nat) (hk : 1 ≤ k) (hk3 : k ≤ 1000) (b : UInt8) (u : List UInt8) (hlen : u.length ≤ 10000) (hsp : ∀ x ∈ b :: u, specialL.contains x = false) (hasc : ∀ x ∈ b :: u, x.toNat < 128) (o1 c1 o2 c2 : Bool)
    (h1 : flankR 0 (firstI (b :: u ++ List.replicate k 42)) 42 = (o1, c1)) (h2 : flankR (lastI (List.replicate k 42 ++ (b :: u))) 0 42 = (o2, c2)) (F : Fo) (hF : nodesL [.run ⟨42, k, o1, c1⟩, .text (b :: u), .run ⟨42, k, o2, c2⟩] = F) (hsz : F.sz ≤ 1000000) (hch : chT F ≤ 100000000) :
    Calls Tryz.prog 11 #[.string (mkB (List.replicate k 42 ++ (b :: u ++ List.replicate k 42))), .slice none 0 0, .slice none 0 0, .int .i64 m] w fun e w' => ∃ v, e = .returned v ∧ Rep w' [] v (tidyL F) ∧ Bl w w' := by
  have hb42 : b ≠ 42 := by
    rintro rfl
    exact absurd (hsp 42 List.mem_cons_self) (by decide)
  have hl : (List.replicate k (42 : UInt8) ++ (b :: u ++ List.replicate k 42)).length = k + (u.length + 1) + k := by simp; omega
  have hd1 : (List.replicate k (42 : UInt8) ++ (b :: u ++ List.replicate k 42)).drop k = b :: u ++ List.replicate k 42 := by
    have := drop_mid (List.replicate k 42) (b :: u ++ List.replicate k 42)
    rwa [List.length_replicate] at this
  have hd2 : (List.replicate k (42 : UInt8) ++ (b :: u ++ List.replicate k 42)).drop (k + (u.length + 1)) = List.replicate k 42 := by
    rw [← List.drop_drop, hd1]
    simp
  have hrep : List.replicate k (42 : UInt8) = 42 :: List.replicate (k - 1) 42 := by
    obtain ⟨j, rfl⟩ : ∃ j, k = j + 1 := ⟨k - 1, by omega⟩
    rfl
  have hall : ∀ x ∈ (List.replicate k (42 : UInt8) ++ (b :: u ++ List.replicate k 42)), x.toNat < 128 := fun x hx => by
    rcases List.mem_append.1 hx with hx | hx
    · rw [List.eq_of_mem_replicate hx]; decide
    · rcases List.mem_append.1 hx with hx | hx
      · exact hasc x hx
      · rw [List.eq_of_mem_replicate hx]; decide
  have S1 : signsL (List.replicate k 42 ++ (b :: u ++ List.replicate k 42)) 42 ⟨0, []⟩ = ⟨k, [.run ⟨42, k, o1, c1⟩]⟩ := by
    have := signs_at [] (b :: u ++ List.replicate k 42) k [] hk (.inl (by simpa using hb42))
    simp only [List.nil_append, List.length_nil, Nat.zero_add] at this
    rw [this, last_nil, h1]
  have S2 : plainP (List.replicate k 42 ++ (b :: u ++ List.replicate k 42)) ⟨k, [.run ⟨42, k, o1, c1⟩]⟩ = ⟨k + (u.length + 1), [.run ⟨42, k, o1, c1⟩, .text (b :: u)]⟩ := by
    have := plain_at (List.replicate k 42) b u (List.replicate k 42) [.run ⟨42, k, o1, c1⟩] (fun x hx => hsp x (List.mem_cons_of_mem _ hx)) (.inr ⟨42, _, hrep, by decide⟩)
    rw [List.length_replicate] at this
    exact this
  have S3 : signsL (List.replicate k 42 ++ (b :: u ++ List.replicate k 42)) 42 ⟨k + (u.length + 1), [.run ⟨42, k, o1, c1⟩, .text (b :: u)]⟩ = ⟨k + (u.length + 1) + k, [.run ⟨42, k, o1, c1⟩, .text (b :: u), .run ⟨42, k, o2, c2⟩]⟩ := by
    have e : List.replicate k (42 : UInt8) ++ (b :: u ++ List.replicate k 42) = (List.replicate k 42 ++ (b :: u)) ++ (List.replicate k 42 ++ []) := by simp
    have hA : (List.replicate k (42 : UInt8) ++ (b :: u)).length = k + (u.length + 1) := by simp
    have := signs_at (List.replicate k 42 ++ (b :: u)) [] k [.run ⟨42, k, o1, c1⟩, .text (b :: u)] hk (.inr rfl)
    rw [hA, ← e, first_nil, h2] at this
    exact this
  have h := parse_chain w (List.replicate k 42 ++ (b :: u ++ List.replicate k 42)) (by rw [hl]; omega) none none 0 0 0 0 m 3 (stE k (b :: u) ⟨42, k, o1, c1⟩ ⟨42, k, o2, c2⟩) rfl (by rw [hl]; rfl)
    (fun i hi => by
      match i, hi with
      | 0, _ => show 0 < k; omega
      | 1, _ => show k < k + (b :: u).length; simp
      | 2, _ => show k + (b :: u).length < k + (b :: u).length + k; omega)
    (fun i hi => by
      rw [hl]
      match i, hi with
      | 0, _ => show 0 < _; omega
      | 1, _ => show k < _; omega
      | 2, _ => show k + (b :: u).length < _; simp; omega)
    (fun i hi W pb hZ => by
      match i, hi with
      | 0, _ => exact st_star hZ hT (by show 0 < _; rw [hl]; omega) (by rw [hl]; omega) (by show 0 ≤ _; omega) (by show ((List.replicate k (42 : UInt8) ++ _).drop 0).headD 0 = 42; rw [List.drop_zero, hrep]; rfl) S1
      | 1, _ => exact st_plain hZ (by show k < _; rw [hl]; omega) (by rw [hl]; omega) (by show 1 ≤ _; omega) (.inr (fun x hx => hall x (List.mem_of_mem_drop hx))) (by show specialL.contains ((List.drop k _).headD 0) = false; rw [hd1]; exact hsp b List.mem_cons_self) S2
      | 2, _ => exact st_star hZ hT (by show k + (b :: u).length < _; rw [hl]; simp; omega) (by rw [hl]; omega) (by show 2 ≤ _; omega) (by show (List.drop (k + (b :: u).length) _).headD 0 = 42; rw [List.length_cons, hd2, hrep]; rfl) S3)
    (by show wgt [.run ⟨42, k, o1, c1⟩, .text (b :: u), .run ⟨42, k, o2, c2⟩] ≤ 100000; simp [wgt, Pc.text]; omega)
    (fun r hr => by
      have : r = ⟨42, k, o1, c1⟩ ∨ r = ⟨42, k, o2, c2⟩ := by simpa [stE, Pc.text] using hr
      rcases this with rfl | rfl <;> exact (by decide : (42 : UInt8).toNat < 128))
    (by show (nodesL [.run ⟨42, k, o1, c1⟩, .text (b :: u), .run ⟨42, k, o2, c2⟩]).sz ≤ _; rw [hF]; exact hsz) (by show chT (nodesL [.run ⟨42, k, o1, c1⟩, .text (b :: u), .run ⟨42, k, o2, c2⟩]) ≤ _; rw [hF]; exact hch)
  rw [show nodesL (stE k (b :: u) ⟨42, k, o1, c1⟩ ⟨42, k, o2, c2⟩ 3).l = F from hF] at h
  exact h
/-- Letters between as many stars: what is made of it. -/
def starF (k : Nat) (t : List UInt8) : Fo := match k with
  | 1 => .one 18 [] [] (.one 14 t [] .nil)
  | 2 => .one 19 [] [] (.one 14 t [] .nil)
  | _ => .one 18 [] [] (.one 19 [] [] (.one 14 t [] .nil))
theorem lows_asc (t : List UInt8) (h : ∀ x ∈ t, Low x) : (∀ x ∈ t, specialL.contains x = false) ∧ ∀ x ∈ t, x.toNat < 128 := ⟨fun x hx => (low_facts (h x hx)).1, fun x hx => (low_facts (h x hx)).2.2.1⟩
theorem flank_first (b : UInt8) (r : List UInt8) (hb : Low b) : flankR 0 (firstI (b :: r)) 42 = (true, false) := by
  obtain ⟨_, h2, h3, _, h5, _⟩ := low_facts hb
  rw [first_ascii b _ h2 h3]
  unfold flankR
  rw [if_pos (by decide), h5, leans0]
theorem flank_last (r : List UInt8) (b : UInt8) (hb : Low b) : flankR (lastI (r ++ [b])) 0 42 = (false, true) := by
  obtain ⟨_, h2, h3, _, h5, _⟩ := low_facts hb
  rw [last_ascii _ b h2 h3]
  unfold flankR
  rw [if_pos (by decide), h5, leans0]
theorem parse_star (w : World) (hT : Lib.Utf8Tabs 0 1 w) (m : Int) (k : Nat) (hk : k = 1 ∨ k = 2 ∨ k = 3) (t : List UInt8) (ht : t ≠ []) (hlen : t.length ≤ 1000) (hl : ∀ x ∈ t, Low x) :
    Calls Tryz.prog 11 #[.string (mkB (List.replicate k 42 ++ (t ++ List.replicate k 42))), .slice none 0 0, .slice none 0 0, .int .i64 m] w fun e w' => ∃ v, e = .returned v ∧ Rep w' [] v (starF k t) ∧ Bl w w' := by
  obtain ⟨b, u, rfl⟩ := List.exists_cons_of_ne_nil ht
  have hb := hl b List.mem_cons_self
  obtain ⟨p, c, hp, hc⟩ := snoc_of' b u hl
  have h1 := flank_first b (u ++ List.replicate k 42) hb
  have h2 : flankR (lastI (List.replicate k 42 ++ (b :: u))) 0 42 = (false, true) := by rw [hp, ← List.append_assoc]; exact flank_last _ c hc
  obtain ⟨a1, a2⟩ := lows_asc _ hl
  have hlen2 : u.length ≤ 1000 := by simp at hlen; omega
  rcases hk with rfl | rfl | rfl
  · have hN : nodesL [.run ⟨42, 1, true, false⟩, .text (b :: u), .run ⟨42, 1, false, true⟩] = .cons 14 [] [] .nil (.cons 18 [] [] (.one 14 (b :: u) [] .nil) (.one 14 [] [] .nil)) := by
      unfold nodesL usageL runsL Pc.text
      simp only [runsL, matchE1]
      rfl
    exact parse_sts w hT m 1 (by omega) (by omega) b u (by omega) a1 a2 _ _ _ _ h1 h2 _ hN (by simp [Fo.sz, Fo.one]) (by simp [chT, Fo.one]; omega)
  · have hN : nodesL [.run ⟨42, 2, true, false⟩, .text (b :: u), .run ⟨42, 2, false, true⟩] = .cons 14 [] [] .nil (.cons 19 [] [] (.one 14 (b :: u) [] .nil) (.one 14 [] [] .nil)) := by
      unfold nodesL usageL runsL Pc.text
      simp only [runsL, matchE2]
      rfl
    exact parse_sts w hT m 2 (by omega) (by omega) b u (by omega) a1 a2 _ _ _ _ h1 h2 _ hN (by simp [Fo.sz, Fo.one]) (by simp [chT, Fo.one]; omega)
  · have hN : nodesL [.run ⟨42, 3, true, false⟩, .text (b :: u), .run ⟨42, 3, false, true⟩] = .cons 14 [] [] .nil (.cons 18 [] [] (.cons 19 [] [] (.one 14 (b :: u) [] .nil) .nil) (.one 14 [] [] .nil)) := by
      unfold nodesL usageL runsL Pc.text
      simp only [runsL, matchE3]
      rfl
    exact parse_sts w hT m 3 (by omega) (by omega) b u (by omega) a1 a2 _ _ _ _ h1 h2 _ hN (by simp [Fo.sz, Fo.one]) (by simp [chT, Fo.one]; omega)
theorem parse_blanks (w : World) (hT : Lib.Utf8Tabs 0 1 w) (m : Int) (k : Nat) (hk : k = 1 ∨ k = 2 ∨ k = 3) (t : List UInt8) (hlen : t.length ≤ 1000) (hl : ∀ x ∈ t, Low x) :
    Calls Tryz.prog 11 #[.string (mkB (List.replicate k 42 ++ (32 :: (t ++ [32]) ++ List.replicate k 42))), .slice none 0 0, .slice none 0 0, .int .i64 m] w fun e w' => ∃ v, e = .returned v ∧ Rep w' [] v (.one 14 (List.replicate k 42 ++ (32 :: (t ++ [32]) ++ List.replicate k 42)) [] .nil) ∧ Bl w w' := by
  obtain ⟨a1, a2⟩ := lows_asc _ hl
  have h1 : flankR 0 (firstI (32 :: (t ++ [32]) ++ List.replicate k 42)) 42 = (false, false) := by
    rw [List.cons_append, first_ascii 32 _ (by decide) (by decide)]; rfl
  have h2 : flankR (lastI (List.replicate k 42 ++ (32 :: (t ++ [32])))) 0 42 = (false, false) := by
    rw [show List.replicate k (42 : UInt8) ++ (32 :: (t ++ [32])) = (List.replicate k 42 ++ 32 :: t) ++ [32] by simp, last_ascii _ 32 (by decide) (by decide)]; rfl
  have m1 : ∀ x ∈ 32 :: (t ++ [32]), specialL.contains x = false ∧ x.toNat < 128 := fun x hx => by
    rcases List.mem_cons.1 hx with rfl | hx
    · decide
    · rcases List.mem_append.1 hx with hx | hx
      · exact ⟨a1 x hx, a2 x hx⟩
      · rw [List.mem_singleton.1 hx]; decide
  obtain ⟨u, hu⟩ : ∃ u, t ++ [(32 : UInt8)] = u := ⟨_, rfl⟩
  have hul : u.length = t.length + 1 := by rw [← hu]; simp
  rw [hu] at h1 h2 m1 ⊢
  have hN : nodesL [.run ⟨42, k, false, false⟩, .text (32 :: u), .run ⟨42, k, false, false⟩] = .cons 14 (List.replicate k 42) [] .nil (.cons 14 (32 :: u) [] .nil (.one 14 (List.replicate k 42) [] .nil)) := by
    unfold nodesL usageL runsL Pc.text
    simp only [runsL, matchN k hk]
    rcases hk with rfl | rfl | rfl <;> rfl
  have h := parse_sts w hT m k (by omega) (by omega) 32 u (by omega) (fun x hx => (m1 x hx).1) (fun x hx => (m1 x hx).2) _ _ _ _ h1 h2 _ hN (by simp [Fo.sz, Fo.one]) (by simp [chT, Fo.one]; omega)
  have ht : tidyL (.cons 14 (List.replicate k 42) [] .nil (.cons 14 (32 :: u) [] .nil (.one 14 (List.replicate k 42) [] .nil))) = .one 14 (List.replicate k 42 ++ (32 :: u ++ List.replicate k 42)) [] .nil := by
    rcases hk with rfl | rfl | rfl <;> simp [tidyL, Fo.tidyOn, Fo.lay, Fo.one]
  rw [ht] at h
  exact h
end Go.Proofs.YtjocbifjmchbcaaGreatDoor
/- InlineEmphs: the walk of the law. -/
namespace Go.Proofs.YtjocbifjmchbcaaGreatDoor
open Go.RowKit

theorem i64_and16 (n : Int) : bits .and .i64 n 65535 = n % 65536 := by
  have h7 : (BitVec.ofInt 64 65535).toNat = 2 ^ 16 - 1 := by decide
  have key : (BitVec.ofInt 64 n &&& BitVec.ofInt 64 65535).toNat = (n % ((2 ^ 64 : Nat) : Int)).toNat % 2 ^ 16 := by
    rw [BitVec.toNat_and, BitVec.toNat_ofInt, h7, Nat.and_two_pow_sub_one_eq_mod]
  show IntKind.i64.wrap ((BitVec.ofInt 64 n &&& BitVec.ofInt 64 65535).toNat : Nat) = n % 65536
  rw [key, IntKind.wrap_i64]
  omega
theorem cat_data (a s : ByteArray) : (a ++ s).data.toList = a.data.toList ++ s.data.toList := by simp
theorem low_int (b : UInt8) (h1 : decide ((b.toNat : Int) < 97) = false) (h2 : decide ((122 : Int) < (b.toNat : Int)) = false) : Low b := by
  have a1 := of_decide_eq_false h1
  have a2 := of_decide_eq_false h2
  unfold Low
  omega
/-- The text between marks, and between blanks between marks. -/
structure MarkAt (M : ByteArray) (k : Nat) : Prop where
  eq : M.data.toList = List.replicate k 42
theorem mark_star {M s : ByteArray} {k : Nat} (h : MarkAt M k) : (M ++ s) ++ M = mkB (List.replicate k 42 ++ (s.data.toList ++ List.replicate k 42)) := by
  apply str_eq
  rw [cat_data, cat_data, h.eq, mkB_data, List.append_assoc]
theorem mark_blank {M s : ByteArray} {k : Nat} (h : MarkAt M k) : (((M ++ (⟨#[32]⟩ : ByteArray)) ++ s) ++ (⟨#[32]⟩ : ByteArray)) ++ M = mkB (List.replicate k 42 ++ (32 :: (s.data.toList ++ [32]) ++ List.replicate k 42)) := by
  apply str_eq
  rw [cat_data, cat_data, cat_data, cat_data, h.eq, mkB_data]
  simp
theorem MarkAt.size {M : ByteArray} {k : Nat} (h : MarkAt M k) : M.size = k := by rw [← size_len, h.eq, List.length_replicate]
set_option maxRecDepth 100000 in
set_option maxHeartbeats 8000000 in
theorem emphs_walk (s : ByteArray) (n m : Int) (w : World) (hT : Lib.Utf8Tabs 0 1 w) :
    Calls Tryz.prog 3 #[.string s, .int .i64 n, .int .i64 m] w fun e w' => e = .returned (.bool true) ∧ Bl w w' := by
  have hAW := awake14_any w hT
  by_cases h0 : 0 < s.size
  · have hne := isEmpty_false h0
    by_cases h200 : 200 < s.size
    · have d1 : decide ((200 : Int) < (s.size : Int)) = true := decide_eq_true (by omega)
      have d2 : decide (200 < s.size) = true := decide_eq_true h200
      go_enter Tryz.func3, Tryz.ntmps3
      go_wp2_with fail
      refine hAW.mono ?_
      rintro e w1 ⟨rfl, hb1⟩
      dsimp only
      go_wp2_with fail
      go_ret
      exact ⟨rfl, hb1⟩
    · have d1 : decide ((200 : Int) < (s.size : Int)) = false := decide_eq_false (by omega)
      have d2 : decide (200 < s.size) = false := decide_eq_false h200
      go_enter Tryz.func3, Tryz.ntmps3
      go_wp2_with fail
      refine hAW.mono ?_
      rintro e w1 ⟨rfl, hb1⟩
      dsimp only
      go_wp2_with fail
      go_loopw [8] (fun v8 wr => ∃ k : Nat, k ≤ s.size ∧ v8 = .int .i64 (k : Int) ∧ Bl w wr ∧ Hid (∀ x ∈ s.data.toList.take k, Low x)) (fun v8 _ => s.size - (intOf v8).toNat)
      case atStart => exact ⟨0, Nat.zero_le _, rfl, hb1, Lib.hid (fun x hx => by simp at hx)⟩
      case round =>
        obtain ⟨k, hk, rfl, hb, hall⟩ := hrel
        by_cases hlt : k < s.size
        · have dl : decide (k < s.size) = true := decide_eq_true hlt
          cases hl1 : decide ((s[k].toNat : Int) < 97) with
          | true =>
            go_wp2_with fail
            go_ret
            exact ⟨rfl, hb⟩
          | false =>
            cases hl2 : decide ((122 : Int) < (s[k].toNat : Int)) with
            | true =>
              go_wp2_with fail
              go_ret
              exact ⟨rfl, hb⟩
            | false =>
              have H := Lib.hid (show ∀ x ∈ s.data.toList.take (k + 1), Low x from fun x hx => by
                rw [List.take_add_one, at_some s k hlt] at hx
                rcases List.mem_append.1 hx with hx | hx
                · exact hall.out x hx
                · have : x = s[k] := by simpa using hx
                  rw [this]; exact low_int _ hl1 hl2)
              go_wp2_with fail
              go_roundw
              case rel => exact ⟨k + 1, by omega, by go_num, hb, H⟩
              case measure => simp [intOf]; omega
        · obtain rfl : k = s.size := by omega
          have dl : decide (s.size < s.size) = false := decide_eq_false (by omega)
          have hlow : ∀ x ∈ s.data.toList, Low x := fun x hx => hall.out x (by rw [List.take_of_length_le (by rw [size_len]; exact Nat.le_refl _)]; exact hx)
          have hTr := tabs_more hT hb
          have hand := i64_and16 n
          have htne : s.data.toList ≠ [] := fun e => by
            have := size_len s
            rw [e] at this; simp at this; omega
          have htl : s.data.toList.length ≤ 1000 := by rw [size_len]; omega
          rcases (show n % 65536 % 3 = 0 ∨ n % 65536 % 3 = 1 ∨ n % 65536 % 3 = 2 by omega) with hj | hj | hj
          · go_upto_region 11 with fail
            have hbA : Bl w (wr.alloc (.cells #[.string ⟨#[42]⟩, .string ⟨#[42, 42]⟩, .string ⟨#[42, 42, 42]⟩] 9)) := hb.alloc _
            obtain ⟨wA, hwA⟩ : ∃ wA, wr.alloc (.cells #[.string ⟨#[42]⟩, .string ⟨#[42, 42]⟩, .string ⟨#[42, 42, 42]⟩] 9) = wA := ⟨_, rfl⟩
            rw [hwA] at hbA ⊢
            clear hwA
            have hM : MarkAt ⟨#[42]⟩ 1 := ⟨rfl⟩
            obtain ⟨M, hMe⟩ : ∃ M, (⟨#[42]⟩ : ByteArray) = M := ⟨_, rfl⟩
            rw [hMe] at hM ⊢
            clear hMe
            have hMs := hM.size
            have hPA : ∀ W, Bl w W → Calls Tryz.prog 11 #[.string ((M ++ s) ++ M), .slice none 0 0, .slice none 0 0, .int .i64 m] W fun e w' => ∃ v, e = .returned v ∧ Rep w' [] v (starF 1 s.data.toList) ∧ Bl W w' := fun W hW => by
              rw [mark_star hM]
              exact parse_star W (tabs_more hT hW) m 1 (.inl rfl) _ htne htl hlow
            have hPB : ∀ W, Bl w W → Calls Tryz.prog 11 #[.string ((((M ++ (⟨#[32]⟩ : ByteArray)) ++ s) ++ (⟨#[32]⟩ : ByteArray)) ++ M), .slice none 0 0, .slice none 0 0, .int .i64 m] W fun e w' => ∃ v, e = .returned v ∧ Rep w' [] v (.one 14 (List.replicate 1 42 ++ (32 :: (s.data.toList ++ [32]) ++ List.replicate 1 42)) [] .nil) ∧ Bl W w' := fun W hW => by
              rw [mark_blank hM]
              exact parse_blanks W (tabs_more hT hW) m 1 (.inl rfl) _ htl hlow
            have hMB := Lib.hid (mark_blank (s := s) hM)
            have hMz : M.size ≤ 3 := by omega
            have hMI := Lib.hid hMs
            have hsz200 : s.size ≤ 200 := by omega
            clear hMs hM hlow hall
            go_wp2_with fail
            refine (hPA wA hbA).mono ?_
            rintro e w2 ⟨va, rfl, hRA, hb2⟩
            dsimp only
            go_wp2_with fail
            refine (hPB w2 (hbA.trans hb2)).mono ?_
            rintro e w3 ⟨vb, rfl, hRB, hb3⟩
            dsimp only
            have hbw := (hbA.trans hb2).trans hb3
            have hRA3 := hRA.bl hb3
            obtain ⟨ba, oa, ca, k0, s0, t0, l0, v0, ea, d0, a0, _, _, a6, hRI⟩ := hRA3.cellAt (n := 1) rfl (j := 0) (by omega)
            subst ea
            obtain ⟨bb, ob, cb, k2, s2, t2, l2, v2, eb, d2, b0, b1, _⟩ := hRB.cellAt (n := 1) rfl (j := 0) (by omega)
            subst eb
            cases d0; cases d2
            obtain ⟨bi, oi, ci, k1, s1, t1, l1, v1, ei, d1', i0, i1, _, i6, hRJ⟩ := hRI.cellAt (n := 1) rfl (j := 0) (by omega)
            subst ei
            cases d1'
            simp only [Nat.zero_mul, Nat.add_zero] at a0 a6 b0 b1 i0 i1 i6
            replace a0 : w3.cell? ⟨ba, oa, none⟩ = some (.int .i64 18) := a0
            replace b0 : w3.cell? ⟨bb, ob, none⟩ = some (.int .i64 14) := b0
            replace i0 : w3.cell? ⟨bi, oi, none⟩ = some (.int .i64 14) := i0
            rw [← hMB.out] at b1
            rw [mkB_self] at i1
            clear hMB hRA hRB hRA3 hRI hRJ hPA hPB
            go_wp2_with fail
            go_ret
            exact ⟨rfl, hbw⟩
          · go_upto_region 11 with fail
            have hbA : Bl w (wr.alloc (.cells #[.string ⟨#[42]⟩, .string ⟨#[42, 42]⟩, .string ⟨#[42, 42, 42]⟩] 9)) := hb.alloc _
            obtain ⟨wA, hwA⟩ : ∃ wA, wr.alloc (.cells #[.string ⟨#[42]⟩, .string ⟨#[42, 42]⟩, .string ⟨#[42, 42, 42]⟩] 9) = wA := ⟨_, rfl⟩
            rw [hwA] at hbA ⊢
            clear hwA
            have hM : MarkAt ⟨#[42, 42]⟩ 2 := ⟨rfl⟩
            obtain ⟨M, hMe⟩ : ∃ M, (⟨#[42, 42]⟩ : ByteArray) = M := ⟨_, rfl⟩
            rw [hMe] at hM ⊢
            clear hMe
            have hMs := hM.size
            have hPA : ∀ W, Bl w W → Calls Tryz.prog 11 #[.string ((M ++ s) ++ M), .slice none 0 0, .slice none 0 0, .int .i64 m] W fun e w' => ∃ v, e = .returned v ∧ Rep w' [] v (starF 2 s.data.toList) ∧ Bl W w' := fun W hW => by
              rw [mark_star hM]
              exact parse_star W (tabs_more hT hW) m 2 (.inr (.inl rfl)) _ htne htl hlow
            have hPB : ∀ W, Bl w W → Calls Tryz.prog 11 #[.string ((((M ++ (⟨#[32]⟩ : ByteArray)) ++ s) ++ (⟨#[32]⟩ : ByteArray)) ++ M), .slice none 0 0, .slice none 0 0, .int .i64 m] W fun e w' => ∃ v, e = .returned v ∧ Rep w' [] v (.one 14 (List.replicate 2 42 ++ (32 :: (s.data.toList ++ [32]) ++ List.replicate 2 42)) [] .nil) ∧ Bl W w' := fun W hW => by
              rw [mark_blank hM]
              exact parse_blanks W (tabs_more hT hW) m 2 (.inr (.inl rfl)) _ htl hlow
            have hMB := Lib.hid (mark_blank (s := s) hM)
            have hMz : M.size ≤ 3 := by omega
            have hMI := Lib.hid hMs
            have hsz200 : s.size ≤ 200 := by omega
            clear hMs hM hlow hall
            go_wp2_with fail
            refine (hPA wA hbA).mono ?_
            rintro e w2 ⟨va, rfl, hRA, hb2⟩
            dsimp only
            go_wp2_with fail
            refine (hPB w2 (hbA.trans hb2)).mono ?_
            rintro e w3 ⟨vb, rfl, hRB, hb3⟩
            dsimp only
            have hbw := (hbA.trans hb2).trans hb3
            have hRA3 := hRA.bl hb3
            obtain ⟨ba, oa, ca, k0, s0, t0, l0, v0, ea, d0, a0, _, _, a6, hRI⟩ := hRA3.cellAt (n := 1) rfl (j := 0) (by omega)
            subst ea
            obtain ⟨bb, ob, cb, k2, s2, t2, l2, v2, eb, d2, b0, b1, _⟩ := hRB.cellAt (n := 1) rfl (j := 0) (by omega)
            subst eb
            cases d0; cases d2
            obtain ⟨bi, oi, ci, k1, s1, t1, l1, v1, ei, d1', i0, i1, _, i6, hRJ⟩ := hRI.cellAt (n := 1) rfl (j := 0) (by omega)
            subst ei
            cases d1'
            simp only [Nat.zero_mul, Nat.add_zero] at a0 a6 b0 b1 i0 i1 i6
            replace a0 : w3.cell? ⟨ba, oa, none⟩ = some (.int .i64 19) := a0
            replace b0 : w3.cell? ⟨bb, ob, none⟩ = some (.int .i64 14) := b0
            replace i0 : w3.cell? ⟨bi, oi, none⟩ = some (.int .i64 14) := i0
            rw [← hMB.out] at b1
            rw [mkB_self] at i1
            clear hMB hRA hRB hRA3 hRI hRJ hPA hPB
            go_wp2_with fail
            go_ret
            exact ⟨rfl, hbw⟩
          · go_upto_region 11 with fail
            have hbA : Bl w (wr.alloc (.cells #[.string ⟨#[42]⟩, .string ⟨#[42, 42]⟩, .string ⟨#[42, 42, 42]⟩] 9)) := hb.alloc _
            obtain ⟨wA, hwA⟩ : ∃ wA, wr.alloc (.cells #[.string ⟨#[42]⟩, .string ⟨#[42, 42]⟩, .string ⟨#[42, 42, 42]⟩] 9) = wA := ⟨_, rfl⟩
            rw [hwA] at hbA ⊢
            clear hwA
            have hM : MarkAt ⟨#[42, 42, 42]⟩ 3 := ⟨rfl⟩
            obtain ⟨M, hMe⟩ : ∃ M, (⟨#[42, 42, 42]⟩ : ByteArray) = M := ⟨_, rfl⟩
            rw [hMe] at hM ⊢
            clear hMe
            have hMs := hM.size
            have hPA : ∀ W, Bl w W → Calls Tryz.prog 11 #[.string ((M ++ s) ++ M), .slice none 0 0, .slice none 0 0, .int .i64 m] W fun e w' => ∃ v, e = .returned v ∧ Rep w' [] v (starF 3 s.data.toList) ∧ Bl W w' := fun W hW => by
              rw [mark_star hM]
              exact parse_star W (tabs_more hT hW) m 3 (.inr (.inr rfl)) _ htne htl hlow
            have hPB : ∀ W, Bl w W → Calls Tryz.prog 11 #[.string ((((M ++ (⟨#[32]⟩ : ByteArray)) ++ s) ++ (⟨#[32]⟩ : ByteArray)) ++ M), .slice none 0 0, .slice none 0 0, .int .i64 m] W fun e w' => ∃ v, e = .returned v ∧ Rep w' [] v (.one 14 (List.replicate 3 42 ++ (32 :: (s.data.toList ++ [32]) ++ List.replicate 3 42)) [] .nil) ∧ Bl W w' := fun W hW => by
              rw [mark_blank hM]
              exact parse_blanks W (tabs_more hT hW) m 3 (.inr (.inr rfl)) _ htl hlow
            have hMB := Lib.hid (mark_blank (s := s) hM)
            have hMz : M.size ≤ 3 := by omega
            have hMI := Lib.hid hMs
            have hsz200 : s.size ≤ 200 := by omega
            clear hMs hM hlow hall
            go_wp2_with fail
            refine (hPA wA hbA).mono ?_
            rintro e w2 ⟨va, rfl, hRA, hb2⟩
            dsimp only
            go_wp2_with fail
            refine (hPB w2 (hbA.trans hb2)).mono ?_
            rintro e w3 ⟨vb, rfl, hRB, hb3⟩
            dsimp only
            have hbw := (hbA.trans hb2).trans hb3
            have hRA3 := hRA.bl hb3
            obtain ⟨ba, oa, ca, k0, s0, t0, l0, v0, ea, d0, a0, _, _, a6, hRI⟩ := hRA3.cellAt (n := 1) rfl (j := 0) (by omega)
            subst ea
            obtain ⟨bb, ob, cb, k2, s2, t2, l2, v2, eb, d2, b0, b1, _⟩ := hRB.cellAt (n := 1) rfl (j := 0) (by omega)
            subst eb
            cases d0; cases d2
            obtain ⟨bi, oi, ci, k1, s1, t1, l1, v1, ei, d1', i0, i1, _, i6, hRJ⟩ := hRI.cellAt (n := 1) rfl (j := 0) (by omega)
            subst ei
            cases d1'
            obtain ⟨bj, oj, cj, kj, sj, tj, lj, vj, ej, dj, j0, j1, _⟩ := hRJ.cellAt (n := 1) rfl (j := 0) (by omega)
            subst ej
            cases dj
            simp only [Nat.zero_mul, Nat.add_zero] at a0 a6 b0 b1 i0 i1 i6 j0 j1
            replace a0 : w3.cell? ⟨ba, oa, none⟩ = some (.int .i64 18) := a0
            replace b0 : w3.cell? ⟨bb, ob, none⟩ = some (.int .i64 14) := b0
            replace i0 : w3.cell? ⟨bi, oi, none⟩ = some (.int .i64 19) := i0
            rw [← hMB.out] at b1
            rw [mkB_self] at j1
            clear hMB hRA hRB hRA3 hRI hRJ hPA hPB
            go_wp2_with fail
            go_ret
            exact ⟨rfl, hbw⟩
  · have hne : s.toList.isEmpty = true := by
      rw [toList_eq, List.length_eq_zero_iff.1 (show s.data.toList.length = 0 by rw [size_len]; omega)]; rfl
    go_enter Tryz.func3, Tryz.ntmps3
    go_wp2_with fail
    refine hAW.mono ?_
    rintro e w1 ⟨rfl, hb1⟩
    dsimp only
    go_wp2_with fail
    go_ret
    exact ⟨rfl, hb1⟩
end Go.Proofs.YtjocbifjmchbcaaGreatDoor
