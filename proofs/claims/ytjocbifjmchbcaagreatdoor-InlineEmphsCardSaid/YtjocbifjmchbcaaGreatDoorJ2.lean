/- Words, laws and walks that the card stands on, joined out of several texts: part 2. -/
import Derived.Test.YtjocbifjmchbcaaGreatDoorJ1
import Derived.Outline
import Derived.Shelf.Strings.Builder1
import Derived.Shelf.Strings.Builder2
import Derived.Shelf.Strings.OnBuilder
import Derived.Shelf.Strings.Trim
import Derived.Shelf.Small.Utf8
import Derived.Shelf.Small.Strs
import Derived.Shelf.Small.Wraps
import Derived.Shelf.Strings.BuilderF
import Derived.Shelf.Strings.BuilderK
import Derived.Shelf.Strings.BuilderRune
import Derived.Shelf.Utf8.AppendRune
import Derived.Shelf.Utf8.AppendRunePlain
import Derived.Shelf.Utf8.RuneCount
import Derived.Shelf.Strings.Builder2Cap
import Derived.Shelf.LaysM
import Derived.Shelf.Strings.Search1
import Derived.Shelf.Strings.Search2
import Derived.Shelf.Strings.Search3
import Derived.Shelf.Strings.Cut
import Derived.Shelf.Strings.Count
import Derived.Shelf.Strings.Shaped
import Derived.Shelf.Strings.Prefix
import Derived.Shelf.Strings.Split
import Derived.Shelf.Strings.Replace
import Derived.Shelf.Strings.SplitShaped
import Derived.Shelf.Unicode.Decode
import Derived.Shelf.Strings.Runes
import Derived.Shelf.Strings.RuneCount
import Derived.Shelf.Strings.IndexAny
import Derived.Shelf.Strings.AsciiSet
import Derived.Shelf.Strings.IndexAnyAll
import Derived.Shelf.Strings.Explode
import Derived.Shelf.Bits.Mul64
import Derived.Shelf.Strings.Repeat
import Derived.Shelf.Unicode.DecodeSlow
import Derived.Shelf.Unicode.DecodeAny
import Derived.Shelf.Unicode.DecodeLast
import Derived.Shelf.Strings.FieldsFuncAny
import Derived.Shelf.Strings.FieldsFuncGrows
import Derived.Shelf.Strings.BuilderCap
import Derived.Shelf.Slices.Turned
import Derived.Test.YtjocbifjmchbcaaGreatDoorProg
import Derived.Lib.Repeat
import Derived.RangeFuncNested
import Derived.RangeFuncBound
import Derived.RangeFuncCalls
import Derived.RangeFuncLeaves
import Derived.RangeFuncWrites
import Derived.RangeFuncBox
import Derived.Shelf.Abstract
import Derived.Shelf.RegionOpen
import Derived.OwnWalkIn
import Derived.TacticsInMore
import Derived.LoopNIn
import Derived.LoopIn
import Derived.WalkKit
import Derived.WalkSpells
import Derived.WalkLawsBesides
import Derived.Deep.QuietTactic
import Derived.BigQuiet
import Derived.Lib.Hide
import Derived.Lib.Strings
import Derived.Lib.Bytealg
import Derived.Lib.Index
import Derived.Lib.IndexMore
import Derived.Lib.Split
import Derived.Lib.SplitLaws
import Derived.Lib.Replace
import Derived.Lib.TrimByte
/- What runs are used for. -/
namespace Go.Proofs.YtjocbifjmchbcaaGreatDoor
open Go.RowKit

set_option maxRecDepth 100000 in
set_option maxHeartbeats 4000000 in
theorem kind_any (w : World) (c : UInt8) (n : Nat) : Calls Tryz.prog 83 #[.int .u8 (c.toNat : Int), .int .i64 (n : Int)] w fun e w' => e = .returned (.int .i64 ((kindR c n : Nat) : Int)) ∧ Bl w w' := by
  have hK : kindR c n = if ((c.toNat : Int) == 126) then 23 else if ((n : Int) == 2) then 19 else 18 := by
    unfold kindR
    rw [eq_126]
    have : ((n : Int) == 2) = (n == 2) := by rw [Bool.eq_iff_iff]; simp only [beq_iff_eq]; omega
    rw [this]
  rw [hK]
  clear hK
  cases h1 : ((c.toNat : Int) == 126) with
  | true =>
    go_enter Tryz.func83, Tryz.ntmps83
    go_wp2
    go_ret
    exact ⟨rfl, Bl.refl w⟩
  | false =>
    cases h2 : ((n : Int) == 2) with
    | true =>
      go_enter Tryz.func83, Tryz.ntmps83
      go_wp2
      go_ret
      exact ⟨rfl, Bl.refl w⟩
    | false =>
      go_enter Tryz.func83, Tryz.ntmps83
      go_wp2
      go_ret
      exact ⟨rfl, Bl.refl w⟩
theorem infoUses : (Tryz.prog.info? 86).map (fun i => (i.zero, i.size, i.bytes)) = some (some (.agg #[.int .i64 0, .slice none 0 0, .int .i64 0]), 3, 40) := by kernel_rfl
theorem infoInt : (Tryz.prog.info? 3).map (fun i => (i.zero, i.size, i.bytes)) = some (some (.int .i64 0), 1, 8) := by kernel_rfl
theorem row_pair {w : World} {base : Nat} {po : Option Addr} {pc : Nat} {P : List (Nat × Nat × Nat)} (h : w.ownsRow base 119 3 (.slice po P.length pc) P.length (pCells P)) {q : Nat} {x : Nat × Nat × Nat} (hx : P[q]? = some x) :
    ∃ pb, po = some ⟨pb, 0, none⟩ ∧ pb < w.heap.size ∧ w.cell? ⟨pb, q * 3, none⟩ = some (.int .i64 (x.1 : Int)) ∧ w.cell? ⟨pb, q * 3 + 1, none⟩ = some (.int .i64 (x.2.1 : Int)) ∧ w.cell? ⟨pb, q * 3 + 2, none⟩ = some (.int .i64 (x.2.2 : Int)) := by
  have hlt := (List.getElem?_eq_some_iff.1 hx).1
  obtain ⟨pb, cap, hv, _, hpb⟩ := h.form (by omega)
  cases hv
  refine ⟨pb, rfl, hpb, ?_⟩
  have hg := pCells_get P q x hx
  have hadd : ∀ j, (⟨pb, 0, none⟩ : Addr).add j = ⟨pb, j, none⟩ := fun j => by unfold Addr.add; split <;> simp_all
  have a := h.cells (g := pb) rfl (q * 3) _ hg.1
  have b := h.cells (g := pb) rfl (q * 3 + 1) _ hg.2.1
  have c := h.cells (g := pb) rfl (q * 3 + 2) _ hg.2.2
  rw [hadd] at a b c
  exact ⟨a, b, c⟩
/-- In a round over the pairs. -/
structure Uq (w : World) (B4 : Nat) (wx : World) (ub n p7 a b c : Nat) (po : Option Addr) (pc : Nat) (P : List (Nat × Nat × Nat)) (u : Nat → Us) (v : Nat → Value) : Prop where
  bl : Bl w wx
  uz : Uz wx ub ub n u v
  p7 : wx.heap[p7]? = some (.cells #[.int .i64 (a : Int), .int .i64 (b : Int), .int .i64 (c : Int)] 119 (0, 0))
  row : wx.ownsRow B4 119 3 (.slice po P.length pc) P.length (pCells P)
theorem Uq.drew {w wx : World} {B4 : Nat} {ub n p7 a b c : Nat} {po : Option Addr} {pc : Nat} {P : List (Nat × Nat × Nat)} {u : Nat → Us} {v : Nat → Value} (h : Uq w B4 wx ub n p7 a b c po pc P u v) {wy : World} (k : Bl wx wy) : Uq w B4 wy ub n p7 a b c po pc P u v :=
  ⟨h.bl.trans k, h.uz.bl k, (k.block (heap_lt h.p7)).trans h.p7, h.row.kept (grownBy_of_bl k none) (by cases (Value.slice po P.length pc).ownBlock <;> simp)⟩
theorem Uq.num {w wx : World} {B4 : Nat} {ub n p7 a b c : Nat} {po : Option Addr} {pc : Nat} {P : List (Nat × Nat × Nat)} {u : Nat → Us} {v : Nat → Value} (h : Uq w B4 wx ub n p7 a b c po pc P u v) (hub : w.heap.size ≤ ub) {i : Nat} (hi : i < n) (e : Nat) (y : Us) (x : Int)
    (hc : (e = 0 ∧ x = (y.closes : Int) ∧ y.opens = (u i).opens ∧ y.left = (u i).left) ∨ (e = 2 ∧ x = y.left ∧ y.opens = (u i).opens ∧ y.closes = (u i).closes)) :
    Uq w B4 (wx.setCell ⟨ub, i * 3 + e, none⟩ (.int .i64 x)) ub n p7 a b c po pc P (upd u i y) v := by
  obtain ⟨cur, h1, _⟩ := h.uz.ex
  have hne : ub ≠ p7 := fun e => by rw [e, h.p7] at h1; cases h1
  have hg := grownBy_setCell wx ⟨ub, i * 3 + e, none⟩ (.int .i64 x)
  refine ⟨h.bl.grown hg (fun b hb => by cases hb; exact hub), h.uz.num hi e y x hc, (hg.block p7 (heap_lt h.p7) (fun e => hne (Option.some.inj e).symm)).trans h.p7, h.row.kept hg (.inr ?_)⟩
  exact fun e => row_ne h.row h1 (by decide) e.symm
theorem Uq.more {w wx w0 w1 : World} {B4 : Nat} {ub n p7 a b c : Nat} {po : Option Addr} {pc : Nat} {P : List (Nat × Nat × Nat)} {u : Nat → Us} {v : Nat → Value} (h : Uq w B4 wx ub n p7 a b c po pc P u v) (hub : w.heap.size ≤ ub) (hb : Bl wx w0) {i : Nat} (hi : i < n) (k g cap : Nat)
    (hg : w0.grownBy w1 (v i).ownBlock) (hown : w1.ownsRow ub 3 1 (.slice (some ⟨g, 0, none⟩) ((u i).opens.length + 1) cap) ((u i).opens.length + 1) (opsV (u i).opens ++ [.int .i64 (k : Int)]))
    (hat : (v i).ownBlock = some g ∨ g = w0.heap.size) :
    (w1.cell? ⟨ub, i * 3 + 1, none⟩ = some (v i) ∧ w1.frozen? ⟨ub, i * 3 + 1, none⟩ = false) ∧
    Uq w B4 (w1.setCell ⟨ub, i * 3 + 1, none⟩ (.slice (some ⟨g, 0, none⟩) ((u i).opens.length + 1) cap)) ub n p7 a b c po pc P (upd u i { u i with opens := (u i).opens ++ [k] }) (upd v i (.slice (some ⟨g, 0, none⟩) ((u i).opens.length + 1) cap)) := by
  obtain ⟨cur, h1, _⟩ := h.uz.ex
  have hne : ub ≠ p7 := fun e => by rw [e, h.p7] at h1; cases h1
  obtain ⟨hA, hB⟩ := h.uz.more hb hi k g cap hg hown hat
  have h0 := h.drew hb
  have hr0 := h0.uz.rows i hi
  have a1 := row_ne hr0 h0.p7 (by decide)
  have a2 : (Value.slice po P.length pc).ownBlock = none ∨ (Value.slice po P.length pc).ownBlock ≠ (v i).ownBlock := by
    cases hpo : (Value.slice po P.length pc).ownBlock with
    | none => exact .inl rfl
    | some y =>
      right
      rcases h0.row.2 with ⟨h5, _⟩ | ⟨g5, cap5, cur5, h5, _, h6, _⟩
      · rw [h5] at hpo; cases hpo
      · rw [h5] at hpo
        cases hpo
        exact row_ne hr0 h6 (by decide)
  have hg2 := grownBy_setCell w1 ⟨ub, i * 3 + 1, none⟩ (.slice (some ⟨g, 0, none⟩) ((u i).opens.length + 1) cap)
  have h7 := (hg.block p7 (heap_lt h0.p7) a1).trans h0.p7
  have hrw := h0.row.kept hg a2
  have hbl1 : Bl w w1 := h0.bl.grown hg (fun b hb => Nat.le_trans hub (hr0.lt b hb).1)
  refine ⟨hA, ⟨hbl1.grown hg2 (fun b hb => by cases hb; exact hub), hB, (hg2.block p7 (heap_lt h7) (fun e => hne (Option.some.inj e).symm)).trans h7, hrw.kept hg2 (.inr ?_)⟩⟩
  have h11 : w1.heap[ub]? = some (.cells cur 86 (0, 0)) := by
    obtain ⟨cur', h1', _⟩ := h0.uz.ex
    have e1 : w0.heap[ub]? = some (.cells cur 86 (0, 0)) := (hb.block (heap_lt h1)).trans h1
    exact (hg.block ub (heap_lt e1) (h0.uz.ne hi)).trans e1
  exact fun e => row_ne hrw h11 (by decide) e.symm
theorem take_used {P : List (Nat × Nat × Nat)} {j : Nat} {x : Nat × Nat × Nat} (hx : P[j]? = some x) (i : Nat) : usedR i (P.take (j + 1)) = usedR i (P.take j) + ((if x.1 == i then x.2.2 else 0) + (if x.2.1 == i then x.2.2 else 0)) := by
  rw [List.take_add_one, hx]
  exact usedR_snoc i x _
theorem left_bounds (l : List Rn) (P : List (Nat × Nat × Nat)) (i j : Nat) {n : Nat} (hl : l.length = n) (hi : i < n) (hbig : ∀ r ∈ l, r.n ≤ 1000000) (hu : usedR i P ≤ (l.getD i default).n) (c : Nat) (hc : usedR i (P.take j) + c ≤ usedR i (P.take (j + 1))) :
    0 ≤ (useL l (P.take j) i).left ∧ (useL l (P.take j) i).left ≤ 1000000 ∧ (c : Int) ≤ (useL l (P.take j) i).left := by
  have h1 := usedR_take i (j + 1) P
  rw [useL_left]
  obtain ⟨r, hr⟩ : ∃ r, l[i]? = some r := ⟨_, List.getElem?_eq_getElem (by omega)⟩
  have h2 := hbig r (List.mem_of_getElem? hr)
  rw [getD_rn hr] at hu ⊢
  omega
set_option maxRecDepth 100000 in
set_option maxHeartbeats 16000000 in
theorem usage_any (w : World) (lb lo lc n : Nat) (l : List Rn) (hR : Rns w lb lo lc l) (hl : l.length = n) (hn0 : 0 < n) (hn1 : n ≤ 100000) (hbig : ∀ r ∈ l, r.n ≤ 1000000) :
    Calls Tryz.prog 40 #[.slice (some ⟨lb, lo, none⟩) n lc] w fun e w' => ∃ ub v, e = .returned (.slice (some ⟨ub, 0, none⟩) n n) ∧ Uz w' w.heap.size ub n (useL l (matchL l)) v ∧ Bl w w' := by
  obtain ⟨iu, hiu, huz, hus, hub⟩ := info_parts infoUses
  obtain ⟨ii, hii, hiz, his, hib⟩ := info_parts infoInt
  have hb2 : iu.bytes * n ≤ 281474976710656 := by rw [hub]; omega
  have hb3 : n ≤ maxLen := by unfold maxLen; omega
  have hMM := fun W (h : Bl w W) => match_any W lb lo lc n l (hR.bl h) hl hn0 hn1 hbig
  have hmo := matchL_out l
  have hPl : (matchL l).length ≤ 100001000000 := by
    have h1 := muR_first l
    have h2 := sum_le_big l hbig
    have h3 := matchL_len l
    rw [hl] at h1 h2
    omega
  have hmu := fun i => matchL_used l i
  obtain ⟨P, hP⟩ : ∃ P, matchL l = P := ⟨_, rfl⟩
  rw [hP] at hmo hPl ⊢
  simp only [hP] at hMM hmu
  clear hP
  go_enter Tryz.func40, Tryz.ntmps40
  go_wp2_with (at_make; go_loud (refine wpList_make_full w rfl _ _ _ rfl w.heap.size 86 iu _ 3 Tryz.underlying71 hiu huz hus .i64 .i64 (n : Int) (n : Int) n rfl rfl rfl rfl hb2 hb3 (Nat.le_refl _) ?_; intro w1 hown1 hgrow1))
  have hU1 := Uz.made hown1
  have hb1 : Bl w w1 := (Bl.refl w).grown hgrow1 (by simp)
  obtain ⟨ub, hubE⟩ : ∃ ub, w.heap.size = ub := ⟨_, rfl⟩
  have hbase : w.heap.size = ub := hubE
  rw [hubE] at hU1 ⊢
  clear hubE hown1 hgrow1
  go_loopw [13] (fun v13 wr => ∃ q : Nat, q ≤ n ∧ v13 = .int .i64 (q : Int) ∧ Bl w wr ∧ Uz wr ub ub n (fun i => ⟨0, [], if i < q then ((l.getD i default).n : Int) else 0⟩) (fun _ => .slice none 0 0)) (fun v _ => n - (intOf v).toNat)
  case atStart => exact ⟨0, Nat.zero_le _, rfl, hb1, hU1.congr (fun i _ => by simp)⟩
  case round =>
    obtain ⟨q, hq, rfl, hbr, hUr⟩ := hrel
    by_cases hqn : q < n
    · obtain ⟨r, hr⟩ : ∃ r, l[q]? = some r := ⟨_, List.getElem?_eq_getElem (by omega)⟩
      obtain ⟨r0, r1, r2, r3⟩ := (hR.bl hbr).cells hr
      have i0 : (0 : Int) ≤ (q : Int) := Int.natCast_nonneg _
      have i1 : (q : Int) < (n : Int) := by omega
      have hult := hUr.lt
      obtain ⟨u0, u1, u2⟩ := hUr.cells hqn
      have uz := hUr.free (q * 3 + 2)
      have hUb := hUr.num hqn 2 ⟨0, [], (r.n : Int)⟩ (r.n : Int) (.inr ⟨rfl, rfl, rfl, rfl⟩)
      have hUc := hUb.congr (u' := fun i => ⟨0, [], if i < q + 1 then ((l.getD i default).n : Int) else 0⟩) (fun i hi => by
        by_cases e : i = q
        · subst e; rw [upd_same, if_pos (Nat.lt_succ_self _), getD_rn hr]
        · rw [upd_other _ _ e]
          by_cases e2 : i < q
          · simp [e2, show i < q + 1 by omega]
          · simp [e2, show ¬ i < q + 1 by omega])
      have hUd := hUc.bl ((Bl.refl _).alloc (.cells #[.int .u8 (r.c.toNat : Int), .int .i64 (r.n : Int), .bool r.o, .bool r.cl] 67))
      have hbc : Bl w ((wr.setCell ⟨ub, q * 3 + 2, none⟩ (.int .i64 (r.n : Int))).alloc (.cells #[.int .u8 (r.c.toNat : Int), .int .i64 (r.n : Int), .bool r.o, .bool r.cl] 67)) := (hbr.grown (grownBy_setCell _ _ _) (fun b hb => by cases hb; exact Nat.le_of_eq hbase)).alloc _
      have hlt0 := hR.lt
      have hbsz := hbr.size
      have hlt1 : lb < wr.heap.size := by omega
      dsimp only at u2
      go_wp2_with fail
      go_roundw
      case rel => exact ⟨q + 1, by omega, by go_num, hbc, hUd⟩
      case measure => simp [intOf]; omega
    · obtain rfl : q = n := by omega
      have hUq := hUr.congr (u' := useL l []) (fun i hi => by rw [useL_nil, if_pos hi])
      clear hUr
      have hMA := hMM wr hbr
      go_wp2_with fail
      refine hMA.mono ?_
      rintro e w4 ⟨ov, rfl, hown4, hb4⟩
      obtain ⟨B4, hB4⟩ : ∃ B4, wr.heap.size = B4 := ⟨_, rfl⟩
      rw [hB4] at hown4
      clear hB4
      obtain ⟨po, pc, rfl⟩ := ownsRow_slice hown4
      dsimp only
      have hU4 := hUq.bl hb4
      have hb4w := hbr.trans hb4
      go_wp2_with fail
      go_loopw [28] (fun v28 wr => ∃ (j : Nat) (v : Nat → Value), j ≤ P.length ∧ v28 = .int .i64 (j : Int) ∧ Bl w wr ∧ Uz wr ub ub q (useL l (P.take j)) v ∧ wr.ownsRow B4 119 3 (.slice po P.length pc) P.length (pCells P)) (fun v _ => P.length - (intOf v).toNat)
      case atStart => exact ⟨0, _, Nat.zero_le _, rfl, hb4w, hU4, hown4⟩
      case round =>
        obtain ⟨j, v, hj, rfl, hbr5, hU5, hown5⟩ := hrel
        by_cases hjn : j < P.length
        · obtain ⟨x, hx⟩ : ∃ x, P[j]? = some x := ⟨_, List.getElem?_eq_getElem hjn⟩
          obtain ⟨pb, rfl, hpb, p0, p1, p2⟩ := row_pair hown5 hx
          obtain ⟨a, b, c⟩ := x
          dsimp only at p0 p1 p2
          have hmx := hmo _ (List.mem_of_getElem? hx)
          dsimp only at hmx
          obtain ⟨hab, hbq, hc1⟩ := hmx
          have i0 : (0 : Int) ≤ (j : Int) := Int.natCast_nonneg _
          have i1 : (j : Int) < (P.length : Int) := by omega
          go_upto_region 10 with fail
          obtain ⟨p7, hp7⟩ : ∃ p7, wr.heap.size = p7 := ⟨_, rfl⟩
          obtain ⟨w7, hw7⟩ : ∃ w7, wr.alloc (.cells #[.int .i64 (a : Int), .int .i64 (b : Int), .int .i64 (c : Int)] 119) = w7 := ⟨_, rfl⟩
          have hb7 : Bl wr w7 := by rw [← hw7]; exact (Bl.refl wr).alloc _
          have h77 : w7.heap[p7]? = some (.cells #[.int .i64 (a : Int), .int .i64 (b : Int), .int .i64 (c : Int)] 119 (0, 0)) := by rw [← hw7, ← hp7]; exact heap_alloc_new wr _
          have hQ7 : Uq w B4 w7 ub q p7 a b c (some ⟨pb, 0, none⟩) pc P (useL l (P.take j)) v := ⟨hbr5.trans hb7, hU5.bl hb7, h77, hown5.kept (grownBy_of_bl hb7 none) (.inr (by simp [Value.ownBlock]))⟩
          rw [hw7, hp7]
          clear hw7 hp7 hown5 hU5
          have hwub := Nat.le_of_eq hbase
          obtain ⟨U, hUe⟩ : ∃ U, useL l (P.take j) = U := ⟨_, rfl⟩
          rw [hUe] at hQ7
          have hcl := useL_closes l b (P.take j)
          have hol := useL_opens l a (P.take j)
          have htl : (P.take j).length ≤ P.length := by simp; omega
          have hsp := take_used hx
          have hla := left_bounds l P a j hl (by omega) hbig (hmu a (by omega)) c (by rw [hsp a]; simp)
          have hlb' := left_bounds l P b j hl (by omega) hbig (hmu b (by omega)) c (by rw [hsp b]; simp)
          rw [hUe] at hla hlb' hcl hol
          have hlc : (U b).closes ≤ 100001000000 := by omega
          have hlo : (U a).opens.length ≤ 100001000000 := by omega
          obtain ⟨XA, hXA⟩ : ∃ XA, (U a).left = XA := ⟨_, rfl⟩
          obtain ⟨XB, hXB⟩ : ∃ XB, (U b).left = XB := ⟨_, rfl⟩
          rw [hXA] at hla
          rw [hXB] at hlb'
          have hUE := Lib.hid hUe
          clear hUe
          have hane : a ≠ b := by omega
          have haq : a < q := by omega
          replace hbq : b < q := by omega
          have i2 : (0 : Int) ≤ (b : Int) := Int.natCast_nonneg _
          have i3 : (b : Int) < (q : Int) := by omega
          have i4 : (0 : Int) ≤ (a : Int) := Int.natCast_nonneg _
          have i5 : (a : Int) < (q : Int) := by omega
          go_cut [] (fun wx => Uq w B4 wx ub q p7 a b c (some ⟨pb, 0, none⟩) pc P (upd U b { U b with closes := (U b).closes + 1 }) v)
          case first =>
            have t0 : w7.cell? ⟨p7, 0, none⟩ = some (.int .i64 (a : Int)) := by rw [Lib.cell_of_heap hQ7.p7]; rfl
            have t1 : w7.cell? ⟨p7, 1, none⟩ = some (.int .i64 (b : Int)) := by rw [Lib.cell_of_heap hQ7.p7]; rfl
            obtain ⟨u0, u1, u2⟩ := hQ7.uz.cells hbq
            have uz := hQ7.uz.free (b * 3)
            have hN := hQ7.num hwub hbq 0 { U b with closes := (U b).closes + 1 } ((((U b).closes + 1 : Nat)) : Int) (.inl ⟨rfl, rfl, rfl, rfl⟩)
            have hcast : ((((U b).closes + 1 : Nat)) : Int) = ((U b).closes : Int) + 1 := by omega
            rw [hcast] at hN
            clear hcast
            go_wp2_with fail
            go_meet
            exact hN
          case rest =>
            clear hQ7
            obtain ⟨U1, hU1e⟩ : ∃ U1, upd U b { U b with closes := (U b).closes + 1 } = U1 := ⟨_, rfl⟩
            rw [hU1e] at hcut
            have e1a : U1 a = U a := by rw [← hU1e, upd_other _ _ hane]
            have e1b : U1 b = { U b with closes := (U b).closes + 1 } := by rw [← hU1e, upd_same]
            obtain ⟨ra, hra⟩ : ∃ ra, l[a]? = some ra := ⟨_, List.getElem?_eq_getElem (by omega)⟩
            obtain ⟨K0, hK0⟩ : ∃ K0, kindR ra.c c = K0 := ⟨_, rfl⟩
            go_upto_region 11 with fail
            go_cut [] (fun wx => ∃ v1, Uq w B4 wx ub q p7 a b c (some ⟨pb, 0, none⟩) pc P (upd U1 a { U1 a with opens := (U1 a).opens ++ [K0] }) v1)
            case first =>
              have t0 : wc.cell? ⟨p7, 0, none⟩ = some (.int .i64 (a : Int)) := by rw [Lib.cell_of_heap hcut.p7]; rfl
              have t2 : wc.cell? ⟨p7, 2, none⟩ = some (.int .i64 (c : Int)) := by rw [Lib.cell_of_heap hcut.p7]; rfl
              obtain ⟨u0, u1, u2⟩ := hcut.uz.cells haq
              have hrow := hcut.uz.rows a haq
              obtain ⟨so, sc, hva⟩ := ownsRow_slice hrow
              have nu := hcut.uz.ne haq
              rw [hva] at u1 hrow nu
              have n7 := row_ne hrow hcut.p7 (by decide)
              have nl : some lb ≠ (Value.slice so (U1 a).opens.length sc).ownBlock := by
                obtain ⟨_, cs, fz, hlbb, _⟩ := (hR.bl hcut.bl).ex
                exact row_ne hrow hlbb (by decide)
              obtain ⟨r0, _, _, _⟩ := (hR.bl hcut.bl).cells hra
              have hKA := fun W => kind_any W ra.c c
              have hmore := fun W0 W1 (hb : Bl wc W0) g cap => hcut.more (w0 := W0) (w1 := W1) hwub hb haq (kindR ra.c c) g cap
              rw [hva] at hmore
              have hgo : (U1 a).opens.length ≤ 100001000000 := by rw [e1a]; exact hlo
              simp only [hK0] at hKA hmore
              obtain ⟨LL, hLL⟩ : ∃ LL, (U1 a).opens.length = LL := ⟨_, rfl⟩
              rw [hLL] at u1 hrow hgo n7 nl nu
              simp only [hLL] at hmore
              have HM := Lib.hid hmore
              have hcsz := hcut.bl.size
              clear hmore
              have hHeld : (fun w' : World => w'.cell? ⟨p7, 0, none⟩ = some (.int .i64 (a : Int)) ∧ w'.cell? ⟨p7, 2, none⟩ = some (.int .i64 (c : Int)) ∧ w'.cell? ⟨lb, lo + a * 4, none⟩ = some (.int .u8 (ra.c.toNat : Int)) ∧ w'.cell? ⟨ub, a * 3 + 1, none⟩ = some (.slice so LL sc)) wc.drew := ⟨t0, t2, r0, u1⟩
              refine wp_region_n (fun w' : World => w'.cell? ⟨p7, 0, none⟩ = some (.int .i64 (a : Int)) ∧ w'.cell? ⟨p7, 2, none⟩ = some (.int .i64 (c : Int)) ∧ w'.cell? ⟨lb, lo + a * 4, none⟩ = some (.int .u8 (ra.c.toNat : Int)) ∧ w'.cell? ⟨ub, a * 3 + 1, none⟩ = some (.slice so LL sc)) [0, 1, 2, 3, 4, 5, 6, 7, 8, 9, 10, 11, 12, 13, 14, 15, 16] (by kernel_rfl) ?_
              refine wpAnyN_take (i := 0) (v := ?rv1) rfl (by kernel_rfl) (by kernel_rfl) (by kernel_rfl) (by kernel_rfl) (by kernel_rfl) (fun _ _ _ h => h) (Or.inl ⟨by rfl, ?rh1⟩) hHeld ?_
              case rh1 => (intro w hSw; (try dsimp only at hSw); go_simp; try with_reducible rfl)
              refine wpAnyN_take (i := 1) (v := ?rv2) rfl (by kernel_rfl) (by kernel_rfl) (by kernel_rfl) (by kernel_rfl) (by kernel_rfl) (fun _ _ _ h => h) (Or.inl ⟨by rfl, ?rh2⟩) hHeld ?_
              case rh2 => (intro w hSw; (try dsimp only at hSw); go_simp; try with_reducible rfl)
              refine wpAnyN_take (i := 2) (v := ?rv3) rfl (by kernel_rfl) (by kernel_rfl) (by kernel_rfl) (by kernel_rfl) (by kernel_rfl) (fun _ _ _ h => h) (Or.inl ⟨by rfl, ?rh3⟩) hHeld ?_
              case rh3 => (intro w hSw; (try dsimp only at hSw); go_simp; try with_reducible rfl)
              refine wpAnyN_take (i := 3) (v := ?rv4) rfl (by kernel_rfl) (by kernel_rfl) (by kernel_rfl) (by kernel_rfl) (by kernel_rfl) (fun _ _ _ h => h) (Or.inl ⟨by rfl, ?rh4⟩) hHeld ?_
              case rh4 => (intro w hSw; (try dsimp only at hSw); go_simp; try with_reducible rfl)
              refine wpAnyN_take (i := 4) (v := ?rv5) rfl (by kernel_rfl) (by kernel_rfl) (by kernel_rfl) (by kernel_rfl) (by kernel_rfl) (fun _ _ _ h => h) (Or.inl ⟨by rfl, ?rh5⟩) hHeld ?_
              case rh5 => (intro w hSw; (try dsimp only at hSw); go_simp; try with_reducible rfl)
              refine wpAnyN_take (i := 5) (v := ?rv6) rfl (by kernel_rfl) (by kernel_rfl) (by kernel_rfl) (by kernel_rfl) (by kernel_rfl) (fun _ _ _ h => h) (Or.inl ⟨by rfl, ?rh6⟩) hHeld ?_
              case rh6 => (intro w hSw; (try dsimp only at hSw); go_simp; try with_reducible rfl)
              refine wpAnyN_take (i := 6) (v := ?rv7) rfl (by kernel_rfl) (by kernel_rfl) (by kernel_rfl) (by kernel_rfl) (by kernel_rfl) (fun _ _ _ h => h) (Or.inl ⟨by rfl, ?rh7⟩) hHeld ?_
              case rh7 => (intro w hSw; (try dsimp only at hSw); go_simp; try with_reducible rfl)
              refine wpAnyN_take (i := 7) (v := ?rv8) rfl (by kernel_rfl) (by kernel_rfl) (by kernel_rfl) (by kernel_rfl) (by kernel_rfl) (fun _ _ _ h => h) (Or.inl ⟨by rfl, ?rh8⟩) hHeld ?_
              case rh8 => (intro w hSw; (try dsimp only at hSw); go_simp; try with_reducible rfl)
              refine wpAnyN_take (i := 8) (v := ?rv9) rfl (by kernel_rfl) (by kernel_rfl) (by kernel_rfl) (by kernel_rfl) (by kernel_rfl) (fun _ _ _ h => h) (Or.inl ⟨by rfl, ?rh9⟩) hHeld ?_
              case rh9 => (intro w hSw; (try dsimp only at hSw); go_simp; try with_reducible rfl)
              refine wpAnyN_take (i := 9) (v := ?rv10) rfl (by kernel_rfl) (by kernel_rfl) (by kernel_rfl) (by kernel_rfl) (by kernel_rfl) (fun _ _ _ h => h) (Or.inl ⟨by rfl, ?rh10⟩) hHeld ?_
              case rh10 => (intro w hSw; (try dsimp only at hSw); go_simp; try with_reducible rfl)
              refine wpAnyN_take (i := 10) (v := ?rv11) rfl (by kernel_rfl) (by kernel_rfl) (by kernel_rfl) (by kernel_rfl) (by kernel_rfl) (fun _ _ _ h => h) (Or.inl ⟨by rfl, ?rh11⟩) hHeld ?_
              case rh11 => (intro w hSw; (try dsimp only at hSw); go_simp; try with_reducible rfl)
              refine wpAnyN_take (i := 11) (v := ?rv12) rfl (by kernel_rfl) (by kernel_rfl) (by kernel_rfl) (by kernel_rfl) (by kernel_rfl) (fun _ _ _ h => h) (Or.inl ⟨by rfl, ?rh12⟩) hHeld ?_
              case rh12 => (intro w hSw; (try dsimp only at hSw); go_simp; try with_reducible rfl)
              refine wpAnyN_take (i := 12) (v := ?rv13) rfl (by kernel_rfl) (by kernel_rfl) (by kernel_rfl) (by kernel_rfl) (by kernel_rfl) (fun _ _ _ h => h) (Or.inl ⟨by rfl, ?rh13⟩) hHeld ?_
              case rh13 => (intro w hSw; (try dsimp only at hSw); go_simp; try with_reducible rfl)
              refine wpAnyN_take (i := 13) (v := ?rv14) rfl (by kernel_rfl) (by kernel_rfl) (by kernel_rfl) (by kernel_rfl) (by kernel_rfl) (fun _ _ _ h => h) (Or.inl ⟨by rfl, ?rh14⟩) hHeld ?_
              case rh14 => (intro w hSw; (try dsimp only at hSw); go_simp; try with_reducible rfl)
              refine wpAnyN_take (i := 14) (v := ?rv15) rfl (by kernel_rfl) (by kernel_rfl) (by kernel_rfl) (by kernel_rfl) (by kernel_rfl) (fun _ _ _ h => h) (Or.inl ⟨by rfl, ?rh15⟩) hHeld ?_
              case rh15 => (intro w hSw; (try dsimp only at hSw); go_simp; try with_reducible rfl)
              refine wpAnyN_take (i := 15) (v := ?rv16) rfl (by kernel_rfl) (by kernel_rfl) (by kernel_rfl) (by kernel_rfl) (by kernel_rfl) (fun _ _ _ h => h) (Or.inl ⟨by rfl, ?rh16⟩) hHeld ?_
              case rh16 => (intro w hSw; (try dsimp only at hSw); go_simp; try with_reducible rfl)
              refine wpAnyN_take (i := 16) (v := ?rv17) rfl (by kernel_rfl) (by kernel_rfl) (by kernel_rfl) (by kernel_rfl) (by kernel_rfl) (fun _ _ _ h => h) (Or.inl ⟨by rfl, ?rh17⟩) hHeld ?_
              case rh17 => (intro w hSw; (try dsimp only at hSw); go_simp; try with_reducible rfl)
              refine wpAnyN_ready (rs := [17]) (by kernel_rfl) (by simp) ?_
              refine AllN.cons rfl (fun K rK18 => ?_) ?_
              · go_simp
                refine (hKA wc.drew).mono ?_
                rintro e w8 ⟨rfl, hb8⟩
                dsimp only
                refine rK18.go _ _ (⟨hb8.cell t0, hb8.cell t2, hb8.cell r0, hb8.cell u1⟩) (fun rS18 => ?_)
                clear rK18 K
                refine wpAnyN_ready (rs := [18]) (by kernel_rfl) (by simp) ?_
                refine AllN.cons rfl (fun K rK19 => ?_) ?_
                · go_simp
                  refine rK19.go _ _ (⟨((hb8.alloc _).cell t0), ((hb8.alloc _).cell t2), ((hb8.alloc _).cell r0), ((hb8.alloc _).cell u1)⟩) (fun rS19 => ?_)
                  clear rK19 K
                  refine wpAnyN_ready (rs := [19]) (by kernel_rfl) (by simp) ?_
                  refine AllN.cons rfl (fun K rK20 => ?_) ?_
                  · refine step_append_lies _ (by rfl) _ _ _ (by rfl) ub 3 ii _ 1 8 Tryz.underlying84 hii hiz his hib rfl (by omega) (.slice so LL sc) LL _ (by rfl) ((hrow.kept (grownBy_of_bl ((Bl.refl wc).drew.trans hb8) none) (by cases (Value.slice so LL sc).ownBlock <;> simp)).alloc _) ⟨w8.heap.size, 0, none⟩ 1 1 [.int .i64 (K0 : Int)] (by rfl) (by rfl) (World.news_of_block (cs := #[.int .i64 (K0 : Int)]) (t := 3) (fr := (0, 0)) (heap_alloc_new w8 _)) (by simp [Value.oneCell']) (by omega) (by unfold maxLen; omega) (by omega) (by have := hb8.size; simp at this ⊢; omega) (w8.heap.size + 1) (by simp) ?_
                    intro gg cap1 w9 hown9 hgrow9 hat9 hlt9
                    obtain ⟨⟨y1, y2⟩, hQ9⟩ := HM.out _ w9 (((Bl.refl wc).drew.trans hb8).alloc (.cells #[.int .i64 (K0 : Int)] 3)) gg cap1 hgrow9 hown9 (by rcases hat9 with h | h; exact .inl h; exact .inr (by simp; omega))
                    refine rK20.go _ _ (⟨hgrow9.cell (((hb8.alloc _).cell t0)) n7, hgrow9.cell (((hb8.alloc _).cell t2)) n7, hgrow9.cell (((hb8.alloc _).cell r0)) nl, hgrow9.cell (((hb8.alloc _).cell u1)) nu⟩) (fun rS20 => ?_)
                    clear rK20 K
                    refine wpAnyN_pass (i := 20) (v := ?rv21) rfl (by kernel_rfl) (by kernel_rfl) (by kernel_rfl) (by kernel_rfl) (fun _ _ _ h => h) (Or.inl ⟨by rfl, ?rh21⟩) ?_
                    case rh21 => (intro w; go_simp; try with_reducible rfl)
                    refine wpAnyN_pass (i := 21) (v := ?rv22) rfl (by kernel_rfl) (by kernel_rfl) (by kernel_rfl) (by kernel_rfl) (fun _ _ _ h => h) (Or.inl ⟨by rfl, ?rh22⟩) ?_
                    case rh22 => (intro w; go_simp; try with_reducible rfl)
                    refine wpAnyN_ready (rs := [22]) (by kernel_rfl) (by simp) ?_
                    refine AllN.cons rfl (fun K rK23 => ?_) ?_
                    · go_simp
                      refine rK23.out _ _ (not_early (by kernel_rfl)) ?_
                      clear rK23 K
                      refine wpAnyN_done (by kernel_rfl) ?_ _
                      go_wp2_with fail
                      go_meet
                      exact ⟨_, hQ9⟩
                    exact AllN.nil
                  exact AllN.nil
                exact AllN.nil
              exact AllN.nil
            case rest =>
              obtain ⟨v1, hc1⟩ := hcut
              obtain ⟨U2, hU2e⟩ : ∃ U2, upd U1 a { U1 a with opens := (U1 a).opens ++ [K0] } = U2 := ⟨_, rfl⟩
              rw [hU2e] at hc1
              have e2a : U2 a = { U1 a with opens := (U1 a).opens ++ [K0] } := by rw [← hU2e, upd_same]
              have e2b : U2 b = U1 b := by rw [← hU2e, upd_other _ _ (Ne.symm hane)]
              go_upto_region 12 with fail
              go_cut [] (fun wx => Uq w B4 wx ub q p7 a b c (some ⟨pb, 0, none⟩) pc P (upd U2 a { U2 a with left := XA - (c : Int) }) v1)
              case first =>
                have t0 : wc.cell? ⟨p7, 0, none⟩ = some (.int .i64 (a : Int)) := by rw [Lib.cell_of_heap hc1.p7]; rfl
                have t2 : wc.cell? ⟨p7, 2, none⟩ = some (.int .i64 (c : Int)) := by rw [Lib.cell_of_heap hc1.p7]; rfl
                obtain ⟨u0, u1, u2⟩ := hc1.uz.cells haq
                have uz := hc1.uz.free (a * 3 + 2)
                have hN := hc1.num hwub haq 2 { U2 a with left := (U2 a).left - (c : Int) } ((U2 a).left - (c : Int)) (.inr ⟨rfl, rfl, rfl, rfl⟩)
                have hle : (U2 a).left = XA := by rw [e2a, e1a, hXA]
                rw [hle] at u2 hN
                have hb3 := hla
                have hN := Lib.hid hN
                clear hle
                have hb4 := hb3.1
                have hb5 := hb3.2.1
                have hb6 := hb3.2.2
                have hwr : IntKind.i64.wrap (XA - (c : Int)) = XA - (c : Int) := IntWalk.i64_in _ (by omega)
                have ic : (0 : Int) ≤ (c : Int) := Int.natCast_nonneg _
                have hHeld : (fun w' : World => w'.cell? ⟨p7, 0, none⟩ = some (.int .i64 (a : Int)) ∧ w'.cell? ⟨p7, 2, none⟩ = some (.int .i64 (c : Int)) ∧ w'.cell? ⟨ub, a * 3 + 2, none⟩ = some (.int .i64 XA)) wc.drew := ⟨t0, t2, u2⟩
                refine wp_region_n (fun w' : World => w'.cell? ⟨p7, 0, none⟩ = some (.int .i64 (a : Int)) ∧ w'.cell? ⟨p7, 2, none⟩ = some (.int .i64 (c : Int)) ∧ w'.cell? ⟨ub, a * 3 + 2, none⟩ = some (.int .i64 XA)) [0, 1, 2, 3, 4, 5, 6, 7, 8, 9, 10] (by kernel_rfl) ?_
                refine wpAnyN_take (i := 0) (v := ?sv1) rfl (by kernel_rfl) (by kernel_rfl) (by kernel_rfl) (by kernel_rfl) (by kernel_rfl) (fun _ _ _ h => h) (Or.inl ⟨by rfl, ?sh1⟩) hHeld ?_
                case sh1 => (intro w hSw; (try dsimp only at hSw); go_simp; try with_reducible rfl)
                refine wpAnyN_take (i := 1) (v := ?sv2) rfl (by kernel_rfl) (by kernel_rfl) (by kernel_rfl) (by kernel_rfl) (by kernel_rfl) (fun _ _ _ h => h) (Or.inl ⟨by rfl, ?sh2⟩) hHeld ?_
                case sh2 => (intro w hSw; (try dsimp only at hSw); go_simp; try with_reducible rfl)
                refine wpAnyN_take (i := 2) (v := ?sv3) rfl (by kernel_rfl) (by kernel_rfl) (by kernel_rfl) (by kernel_rfl) (by kernel_rfl) (fun _ _ _ h => h) (Or.inl ⟨by rfl, ?sh3⟩) hHeld ?_
                case sh3 => (intro w hSw; (try dsimp only at hSw); go_simp; try with_reducible rfl)
                refine wpAnyN_take (i := 3) (v := ?sv4) rfl (by kernel_rfl) (by kernel_rfl) (by kernel_rfl) (by kernel_rfl) (by kernel_rfl) (fun _ _ _ h => h) (Or.inl ⟨by rfl, ?sh4⟩) hHeld ?_
                case sh4 => (intro w hSw; (try dsimp only at hSw); go_simp; try with_reducible rfl)
                refine wpAnyN_take (i := 4) (v := ?sv5) rfl (by kernel_rfl) (by kernel_rfl) (by kernel_rfl) (by kernel_rfl) (by kernel_rfl) (fun _ _ _ h => h) (Or.inl ⟨by rfl, ?sh5⟩) hHeld ?_
                case sh5 => (intro w hSw; (try dsimp only at hSw); go_simp; try with_reducible rfl)
                refine wpAnyN_take (i := 5) (v := ?sv6) rfl (by kernel_rfl) (by kernel_rfl) (by kernel_rfl) (by kernel_rfl) (by kernel_rfl) (fun _ _ _ h => h) (Or.inl ⟨by rfl, ?sh6⟩) hHeld ?_
                case sh6 => (intro w hSw; (try dsimp only at hSw); go_simp; try with_reducible rfl)
                refine wpAnyN_take (i := 6) (v := ?sv7) rfl (by kernel_rfl) (by kernel_rfl) (by kernel_rfl) (by kernel_rfl) (by kernel_rfl) (fun _ _ _ h => h) (Or.inl ⟨by rfl, ?sh7⟩) hHeld ?_
                case sh7 => (intro w hSw; (try dsimp only at hSw); go_simp; try with_reducible rfl)
                refine wpAnyN_take (i := 7) (v := ?sv8) rfl (by kernel_rfl) (by kernel_rfl) (by kernel_rfl) (by kernel_rfl) (by kernel_rfl) (fun _ _ _ h => h) (Or.inl ⟨by rfl, ?sh8⟩) hHeld ?_
                case sh8 => (intro w hSw; (try dsimp only at hSw); go_simp; try with_reducible rfl)
                refine wpAnyN_take (i := 8) (v := ?sv9) rfl (by kernel_rfl) (by kernel_rfl) (by kernel_rfl) (by kernel_rfl) (by kernel_rfl) (fun _ _ _ h => h) (Or.inl ⟨by rfl, ?sh9⟩) hHeld ?_
                case sh9 => (intro w hSw; (try dsimp only at hSw); go_simp; try with_reducible rfl)
                refine wpAnyN_take (i := 9) (v := ?sv10) rfl (by kernel_rfl) (by kernel_rfl) (by kernel_rfl) (by kernel_rfl) (by kernel_rfl) (fun _ _ _ h => h) (Or.inl ⟨by rfl, ?sh10⟩) hHeld ?_
                case sh10 => (intro w hSw; (try dsimp only at hSw); go_simp; try with_reducible rfl)
                refine wpAnyN_take (i := 10) (v := ?sv11) rfl (by kernel_rfl) (by kernel_rfl) (by kernel_rfl) (by kernel_rfl) (by kernel_rfl) (fun _ _ _ h => h) (Or.inl ⟨by rfl, ?sh11⟩) hHeld ?_
                case sh11 => (intro w hSw; (try dsimp only at hSw); go_simp; try with_reducible rfl)
                refine wpAnyN_ready (rs := [11]) (by kernel_rfl) (by simp) ?_
                refine AllN.cons rfl (fun K sK12 => ?_) ?_
                · go_simp
                  refine sK12.out _ _ (not_early (by kernel_rfl)) ?_
                  clear sK12 K
                  refine wpAnyN_done (by kernel_rfl) ?_ _
                  go_wp2_with fail
                  go_meet
                  exact (hN.out).drew (Bl.refl _).drew
                exact AllN.nil
              case rest =>
                clear hc1
                have hc1 := hcut
                clear hcut
                obtain ⟨U3, hU3e⟩ : ∃ U3, upd U2 a { U2 a with left := XA - (c : Int) } = U3 := ⟨_, rfl⟩
                rw [hU3e] at hc1
                have e3a : U3 a = { U2 a with left := XA - (c : Int) } := by rw [← hU3e, upd_same]
                have e3b : U3 b = U2 b := by rw [← hU3e, upd_other _ _ (Ne.symm hane)]
                go_upto_region 13 with fail
                have t0 : wc.cell? ⟨p7, 1, none⟩ = some (.int .i64 (b : Int)) := by rw [Lib.cell_of_heap hc1.p7]; rfl
                have t2 : wc.cell? ⟨p7, 2, none⟩ = some (.int .i64 (c : Int)) := by rw [Lib.cell_of_heap hc1.p7]; rfl
                obtain ⟨u0, u1, u2⟩ := hc1.uz.cells hbq
                have uz := hc1.uz.free (b * 3 + 2)
                have hN := hc1.num hwub hbq 2 { U3 b with left := (U3 b).left - (c : Int) } ((U3 b).left - (c : Int)) (.inr ⟨rfl, rfl, rfl, rfl⟩)
                have hle : (U3 b).left = XB := by rw [e3b, e2b, e1b, hXB]
                rw [hle] at u2 hN
                have hb3 := hlb'
                have hN := Lib.hid hN
                clear hle
                have hb4 := hb3.1
                have hb5 := hb3.2.1
                have hb6 := hb3.2.2
                have hwr : IntKind.i64.wrap (XB - (c : Int)) = XB - (c : Int) := IntWalk.i64_in _ (by omega)
                have ic : (0 : Int) ≤ (c : Int) := Int.natCast_nonneg _
                have hHeld : (fun w' : World => w'.cell? ⟨p7, 1, none⟩ = some (.int .i64 (b : Int)) ∧ w'.cell? ⟨p7, 2, none⟩ = some (.int .i64 (c : Int)) ∧ w'.cell? ⟨ub, b * 3 + 2, none⟩ = some (.int .i64 XB)) wc.drew := ⟨t0, t2, u2⟩
                refine wp_region_n (fun w' : World => w'.cell? ⟨p7, 1, none⟩ = some (.int .i64 (b : Int)) ∧ w'.cell? ⟨p7, 2, none⟩ = some (.int .i64 (c : Int)) ∧ w'.cell? ⟨ub, b * 3 + 2, none⟩ = some (.int .i64 XB)) [0, 1, 2, 3, 4, 5, 6, 7, 8, 9, 10] (by kernel_rfl) ?_
                refine wpAnyN_take (i := 0) (v := ?tv1) rfl (by kernel_rfl) (by kernel_rfl) (by kernel_rfl) (by kernel_rfl) (by kernel_rfl) (fun _ _ _ h => h) (Or.inl ⟨by rfl, ?th1⟩) hHeld ?_
                case th1 => (intro w hSw; (try dsimp only at hSw); go_simp; try with_reducible rfl)
                refine wpAnyN_take (i := 1) (v := ?tv2) rfl (by kernel_rfl) (by kernel_rfl) (by kernel_rfl) (by kernel_rfl) (by kernel_rfl) (fun _ _ _ h => h) (Or.inl ⟨by rfl, ?th2⟩) hHeld ?_
                case th2 => (intro w hSw; (try dsimp only at hSw); go_simp; try with_reducible rfl)
                refine wpAnyN_take (i := 2) (v := ?tv3) rfl (by kernel_rfl) (by kernel_rfl) (by kernel_rfl) (by kernel_rfl) (by kernel_rfl) (fun _ _ _ h => h) (Or.inl ⟨by rfl, ?th3⟩) hHeld ?_
                case th3 => (intro w hSw; (try dsimp only at hSw); go_simp; try with_reducible rfl)
                refine wpAnyN_take (i := 3) (v := ?tv4) rfl (by kernel_rfl) (by kernel_rfl) (by kernel_rfl) (by kernel_rfl) (by kernel_rfl) (fun _ _ _ h => h) (Or.inl ⟨by rfl, ?th4⟩) hHeld ?_
                case th4 => (intro w hSw; (try dsimp only at hSw); go_simp; try with_reducible rfl)
                refine wpAnyN_take (i := 4) (v := ?tv5) rfl (by kernel_rfl) (by kernel_rfl) (by kernel_rfl) (by kernel_rfl) (by kernel_rfl) (fun _ _ _ h => h) (Or.inl ⟨by rfl, ?th5⟩) hHeld ?_
                case th5 => (intro w hSw; (try dsimp only at hSw); go_simp; try with_reducible rfl)
                refine wpAnyN_take (i := 5) (v := ?tv6) rfl (by kernel_rfl) (by kernel_rfl) (by kernel_rfl) (by kernel_rfl) (by kernel_rfl) (fun _ _ _ h => h) (Or.inl ⟨by rfl, ?th6⟩) hHeld ?_
                case th6 => (intro w hSw; (try dsimp only at hSw); go_simp; try with_reducible rfl)
                refine wpAnyN_take (i := 6) (v := ?tv7) rfl (by kernel_rfl) (by kernel_rfl) (by kernel_rfl) (by kernel_rfl) (by kernel_rfl) (fun _ _ _ h => h) (Or.inl ⟨by rfl, ?th7⟩) hHeld ?_
                case th7 => (intro w hSw; (try dsimp only at hSw); go_simp; try with_reducible rfl)
                refine wpAnyN_take (i := 7) (v := ?tv8) rfl (by kernel_rfl) (by kernel_rfl) (by kernel_rfl) (by kernel_rfl) (by kernel_rfl) (fun _ _ _ h => h) (Or.inl ⟨by rfl, ?th8⟩) hHeld ?_
                case th8 => (intro w hSw; (try dsimp only at hSw); go_simp; try with_reducible rfl)
                refine wpAnyN_take (i := 8) (v := ?tv9) rfl (by kernel_rfl) (by kernel_rfl) (by kernel_rfl) (by kernel_rfl) (by kernel_rfl) (fun _ _ _ h => h) (Or.inl ⟨by rfl, ?th9⟩) hHeld ?_
                case th9 => (intro w hSw; (try dsimp only at hSw); go_simp; try with_reducible rfl)
                refine wpAnyN_take (i := 9) (v := ?tv10) rfl (by kernel_rfl) (by kernel_rfl) (by kernel_rfl) (by kernel_rfl) (by kernel_rfl) (fun _ _ _ h => h) (Or.inl ⟨by rfl, ?th10⟩) hHeld ?_
                case th10 => (intro w hSw; (try dsimp only at hSw); go_simp; try with_reducible rfl)
                refine wpAnyN_take (i := 10) (v := ?tv11) rfl (by kernel_rfl) (by kernel_rfl) (by kernel_rfl) (by kernel_rfl) (by kernel_rfl) (fun _ _ _ h => h) (Or.inl ⟨by rfl, ?th11⟩) hHeld ?_
                case th11 => (intro w hSw; (try dsimp only at hSw); go_simp; try with_reducible rfl)
                refine wpAnyN_ready (rs := [11]) (by kernel_rfl) (by simp) ?_
                refine AllN.cons rfl (fun K tK12 => ?_) ?_
                · go_simp
                  refine tK12.out _ _ (not_early (by kernel_rfl)) ?_
                  clear tK12 K
                  refine wpAnyN_done (by kernel_rfl) ?_ _
                  go_wp2_with fail
                  have hF := (hN.out).drew (Bl.refl _).drew
                  refine ⟨⟨j + 1, v1, by omega, by go_num, hF.bl, hF.uz.congr (fun i hi => ?_), hF.row⟩, ?_⟩
                  · rw [List.take_add_one, hx]
                    show useL l (P.take j ++ [(a, b, c)]) i = _
                    rw [useL_snoc, hUE.out]
                    dsimp only
                    by_cases h1 : a = i
                    · subst h1
                      have h2 : ¬ b = a := fun e => hane e.symm
                      rw [upd_other _ _ hane, e3a, e2a, e1a]
                      have hgd : l[a]?.getD default = ra := by rw [hra]; rfl
                      simp [h2, hXA, hgd, hK0]
                    · by_cases h2 : b = i
                      · subst h2
                        rw [upd_same, e3b, e2b, e1b]
                        rw [if_neg h1, if_neg h1, List.append_nil, hXB, Int.sub_zero]
                        rw [if_pos rfl, if_pos rfl]
                      · rw [upd_other _ _ (fun e => h2 e.symm), ← hU3e, upd_other _ _ (fun e => h1 e.symm), ← hU2e, upd_other _ _ (fun e => h1 e.symm), ← hU1e, upd_other _ _ (fun e => h2 e.symm)]
                        simp [h1, h2]
                  · simp [intOf]
                    omega
                exact AllN.nil
        · obtain rfl : j = P.length := by omega
          rw [List.take_length] at hU5
          go_wp2_with fail
          go_ret
          exact ⟨ub, v, rfl, by rw [hbase]; exact hU5, hbr5⟩
end Go.Proofs.YtjocbifjmchbcaaGreatDoor
/- The builder's add. -/
namespace Go.Proofs.YtjocbifjmchbcaaGreatDoor
open Go.RowKit

theorem infoNode : (Tryz.prog.info? 27).map (fun i => (i.zero, i.size, i.bytes)) = some (some (.agg #[.int .i64 0, .string ⟨#[]⟩, .string ⟨#[]⟩, .int .i64 0, .int .i64 0, .bool false, .slice none 0 0]), 7, 88) := by kernel_rfl

set_option maxRecDepth 100000 in
set_option maxHeartbeats 16000000 in
theorem badd_any (w0 w : World) (b g : Nat) (k0 : Nat) (f : Fo) (v0 : Value) (r : Os) (hB : BdS w0 w b g ((k0, f, v0) :: r)) (k : Nat) (s t : List UInt8) (v : Value) (l : Fo) (hR : Rep w (g :: blks ((k0, f, v0) :: r)) v l) (hlen : f.len ≤ 1000000) (hr : r.length ≤ 1000000) :
    Calls Tryz.prog 41 #[.pointer (some ⟨b, 0, none⟩), .agg #[.int .i64 (k : Int), .string (mkB s), .string (mkB t), .int .i64 0, .int .i64 0, .bool false, v]] w fun e w' => e = .returned (.tuple #[]) ∧ (∃ v1, BdS w0 w' b g ((k0, f.snoc k s t l, v1) :: r)) ∧ Oth2 w w' := by
  obtain ⟨cap, xs, h1, h2, ys, zs, h3, h4, h5, h6⟩ := hB.ex
  obtain ⟨i0, hi0, hz0, hz1, hz2⟩ := info_parts infoNode
  have hb := heap_lt h1
  obtain ⟨va, vc, rfl⟩ := hR.slice
  dsimp only at h3 h4 h5
  obtain ⟨ao, c0, rfl⟩ := ownsRow_slice h4
  have cb : w.cell? ⟨b, 0, none⟩ = some (.slice (some ⟨g, 0, none⟩) (r.length + 1) cap) := by rw [Lib.cell_of_heap h1]; rfl
  go_enter Tryz.func41, Tryz.ntmps41
  go_wp2_with fail
  have hi1 : (0 : Int) ≤ ((r.length : Nat) : Int) := Int.natCast_nonneg _
  go_quiet (fail)
  go_wp2_with fail
  obtain ⟨w1, hw1⟩ : ∃ w1, (w.alloc (.cells #[.int .i64 (k : Int), .string (mkB s), .string (mkB t), .int .i64 0, .int .i64 0, .bool false, .slice va l.len vc] 27)).drewN nq = w1 := ⟨_, rfl⟩
  rw [hw1]
  have hbl : Bl w w1 := by rw [← hw1]; exact ((Bl.refl w).alloc _).drewN nq
  have hsz1 : w1.heap.size = w.heap.size + 1 := by rw [← hw1]; simp
  have hbox : w1.heap[w.heap.size]? = some (.cells #[.int .i64 (k : Int), .string (mkB s), .string (mkB t), .int .i64 0, .int .i64 0, .bool false, .slice va l.len vc] 27 (0, 0)) := by rw [← hw1]; exact heap_alloc_new w _
  clear hw1
  have h2' := h2.kept (grownBy_of_bl hbl none) (by simp [Value.ownBlock])
  have h4' := h4.kept (grownBy_of_bl hbl none) (by cases ho : (Value.slice ao f.len c0).ownBlock <;> simp)
  have b0 : w1.cell? ⟨w.heap.size, 0, none⟩ = some (.int .i64 (k : Int)) := by rw [Lib.cell_of_heap hbox]; rfl
  have b1 : w1.cell? ⟨w.heap.size, 1, none⟩ = some (.string (mkB s)) := by rw [Lib.cell_of_heap hbox]; rfl
  have b2 : w1.cell? ⟨w.heap.size, 2, none⟩ = some (.string (mkB t)) := by rw [Lib.cell_of_heap hbox]; rfl
  have b3 : w1.cell? ⟨w.heap.size, 3, none⟩ = some (.int .i64 0) := by rw [Lib.cell_of_heap hbox]; rfl
  have b4 : w1.cell? ⟨w.heap.size, 4, none⟩ = some (.int .i64 0) := by rw [Lib.cell_of_heap hbox]; rfl
  have b5 : w1.cell? ⟨w.heap.size, 5, none⟩ = some (.bool false) := by rw [Lib.cell_of_heap hbox]; rfl
  have b6 : w1.cell? ⟨w.heap.size, 6, none⟩ = some (.slice va l.len vc) := by rw [Lib.cell_of_heap hbox]; rfl
  have hyl : ys.length = r.length * 7 := by rw [OpenX.length h6]; omega
  have c6 : w1.cell? ⟨g, r.length * 7 + 6, none⟩ = some (Value.slice ao f.len c0) := by
    have := h2'.cells rfl (r.length * 7 + 6) (.slice ao f.len c0) (by rw [h3, List.getElem?_append_right (by omega), hyl]; simp [nodeV])
    rwa [show (⟨g, 0, none⟩ : Addr).add (r.length * 7 + 6) = ⟨g, r.length * 7 + 6, none⟩ by unfold Addr.add; split <;> simp_all] at this
  have ag : (Value.slice ao f.len c0).ownBlock ≠ some g := fun e => (List.nodup_cons.1 hB.nd).1 (mem_blks.2 ⟨_, List.mem_cons_self, e⟩)
  have ab : (Value.slice ao f.len c0).ownBlock ≠ some w.heap.size := fun e => by have := (h4.lt _ e).2; omega
  have hg := (h2.lt g rfl).2
  have hzl : zs.length = f.len * 7 := by rw [NodeCells.length h5]; omega
  have hi2 : (0 : Int) ≤ ((f.len : Nat) : Int) := Int.natCast_nonneg _
  have hi3 : ((f.len : Nat) : Int) < (f.len : Int) + 1 := by omega
  have hgz : w1.frozen? ⟨g, r.length * 7 + 6, none⟩ = false := by
    rcases h2'.2 with ⟨h1, _⟩ | ⟨g', cap', cur, h1, _, hh, _⟩
    · cases h1
    · cases h1; exact Lib.frozen_of_heap hh _
  go_region_law (first
    | (refine step_append_lies _ (by rfl) _ _ _ (by rfl) w0.heap.size 27 i0 _ 7 88 Tryz.underlying24 hi0 hz0 hz1 hz2 rfl (by omega) (.slice ao f.len c0) f.len zs (by simp [Act.eval, Act.put]) ((h4'.alloc _).drew)
        ⟨w.heap.size + 1, 0, none⟩ 1 1 [.int .i64 0, .string ⟨#[]⟩, .string ⟨#[]⟩, .int .i64 0, .int .i64 0, .bool false, .slice none 0 0] (by simp [Act.eval, Act.put]) (by rfl) (World.news_of_block (cs := #[.int .i64 0, .string ⟨#[]⟩, .string ⟨#[]⟩, .int .i64 0, .int .i64 0, .bool false, .slice none 0 0]) (t := 27) (fr := (0, 0)) (by rw [← hsz1]; exact heap_alloc_new w1 _)) (by simp [Value.oneCell'])
        (by omega) (by unfold maxLen; omega) (by omega) (by have := hB.bl.size; simp; omega) (w.heap.size + 2) (by simp [hsz1]) ?_
       intro gg cap1 w2 hown1 hgrow hat hlt
       obtain ⟨⟨d0, d1, d2, d3, d4, d5, d6⟩, dz⟩ := row_last hown1 hzl
       have dz0 := dz (f.len * 7); have dz1 := dz (f.len * 7 + 1); have dz2 := dz (f.len * 7 + 2); have dz3 := dz (f.len * 7 + 3); have dz4 := dz (f.len * 7 + 4); have dz5 := dz (f.len * 7 + 5); have dz6 := dz (f.len * 7 + 6)
       clear dz
       obtain ⟨gne, hne⟩ : gg ≠ g ∧ gg ≠ w.heap.size := by rcases hat with h | h <;> refine ⟨?_, ?_⟩ <;> intro e <;> subst e <;> first | exact ag h | exact ab h | omega
       have e0 := (hgrow.cell_far ⟨w.heap.size, 0, none⟩ (by simp; omega) (Ne.symm ab)).trans (Lib.cell?_alloc_some _ b0)
       have e1 := (hgrow.cell_far ⟨w.heap.size, 1, none⟩ (by simp; omega) (Ne.symm ab)).trans (Lib.cell?_alloc_some _ b1)
       have e2 := (hgrow.cell_far ⟨w.heap.size, 2, none⟩ (by simp; omega) (Ne.symm ab)).trans (Lib.cell?_alloc_some _ b2)
       have e3 := (hgrow.cell_far ⟨w.heap.size, 3, none⟩ (by simp; omega) (Ne.symm ab)).trans (Lib.cell?_alloc_some _ b3)
       have e4 := (hgrow.cell_far ⟨w.heap.size, 4, none⟩ (by simp; omega) (Ne.symm ab)).trans (Lib.cell?_alloc_some _ b4)
       have e5 := (hgrow.cell_far ⟨w.heap.size, 5, none⟩ (by simp; omega) (Ne.symm ab)).trans (Lib.cell?_alloc_some _ b5)
       have e6 := (hgrow.cell_far ⟨w.heap.size, 6, none⟩ (by simp; omega) (Ne.symm ab)).trans (Lib.cell?_alloc_some _ b6)
       have f6 := (hgrow.cell_far ⟨g, r.length * 7 + 6, none⟩ (by simp; omega) (Ne.symm ag)).trans (Lib.cell?_alloc_some _ c6)
       have fz := (hgrow.frozen_far ⟨g, r.length * 7 + 6, none⟩ (by simp; omega) (Ne.symm ag)).trans ((World.frozen?_alloc_old _ _ _ (by simp; omega)).trans hgz)
       skip))
  all_goals
    go_wp2
    go_end0
    have E := badd_end (k := k) (s := s) (t := t) hB hR ((hbl.alloc _).drew) h1 h2 h3 h4 h5 h6 hown1 rfl hgrow (hat.imp id (fun e => by omega))
    obtain ⟨vv, E1, E2⟩ := E
    refine ⟨rfl, ⟨vv, ?_⟩, ?_⟩
    all_goals first
      | (rw [nodeV, setCells7] at E1; with_reducible exact E1)
      | (rw [nodeV, setCells7] at E2; with_reducible exact E2)
      | (rw [← setCells_comm gg ⟨g, r.length * 7 + 6, none⟩ _ (Ne.symm gne), nodeV, setCells7] at E1; with_reducible exact E1)
      | (rw [← setCells_comm gg ⟨g, r.length * 7 + 6, none⟩ _ (Ne.symm gne), nodeV, setCells7] at E2; with_reducible exact E2)

end Go.Proofs.YtjocbifjmchbcaaGreatDoor
/- The builder's begin. -/
namespace Go.Proofs.YtjocbifjmchbcaaGreatDoor
open Go.RowKit

set_option maxRecDepth 100000 in
set_option maxHeartbeats 1600000 in
theorem bbegin_any (w0 w : World) (b g : Nat) (st : Os) (hB : BdS w0 w b g st) (k : Nat) (hr : st.length ≤ 1000000) :
    Calls Tryz.prog 87 #[.pointer (some ⟨b, 0, none⟩), .int .i64 (k : Int)] w fun e w' => e = .returned (.tuple #[]) ∧ (∃ g', BdS w0 w' b g' ((k, .nil, .slice none 0 0) :: st)) ∧ Oth2 w w' := by
  obtain ⟨cap, xs, h1, h2, h3⟩ := hB.ex
  obtain ⟨i0, hi0, hz0, hz1, hz2⟩ := info_parts infoNode
  have hb := heap_lt h1
  have cb : w.cell? ⟨b, 0, none⟩ = some (.slice (some ⟨g, 0, none⟩) st.length cap) := by rw [Lib.cell_of_heap h1]; rfl
  have hi1 : (0 : Int) ≤ ((st.length : Nat) : Int) := Int.natCast_nonneg _
  have hi3 : ((st.length : Nat) : Int) < (st.length : Int) + 1 := by omega
  go_enter Tryz.func87, Tryz.ntmps87
  go_wp2_with fail
  have hHeld : (fun w' : World => w'.cell? ⟨b, 0, none⟩ = some (.slice (some ⟨g, 0, none⟩) st.length cap)) w.drew := cb
  refine wp_region_n (fun w' : World => w'.cell? ⟨b, 0, none⟩ = some (.slice (some ⟨g, 0, none⟩) st.length cap)) [0, 1, 2, 3, 4, 5, 6] (by kernel_rfl) ?_
  refine wpAnyN_take (i := 0) (v := ?rv1) rfl (by kernel_rfl) (by kernel_rfl) (by kernel_rfl) (by kernel_rfl) (by kernel_rfl) (fun _ _ _ h => h) (Or.inl ⟨by rfl, ?rh1⟩) hHeld ?_
  case rh1 => (intro w hSw; (try dsimp only at hSw); go_simp; try with_reducible rfl)
  refine wpAnyN_take (i := 1) (v := ?rv2) rfl (by kernel_rfl) (by kernel_rfl) (by kernel_rfl) (by kernel_rfl) (by kernel_rfl) (fun _ _ _ h => h) (Or.inl ⟨by rfl, ?rh2⟩) hHeld ?_
  case rh2 => (intro w hSw; (try dsimp only at hSw); go_simp; try with_reducible rfl)
  refine wpAnyN_take (i := 2) (v := ?rv3) rfl (by kernel_rfl) (by kernel_rfl) (by kernel_rfl) (by kernel_rfl) (by kernel_rfl) (fun _ _ _ h => h) (Or.inl ⟨by rfl, ?rh3⟩) hHeld ?_
  case rh3 => (intro w hSw; (try dsimp only at hSw); go_simp; try with_reducible rfl)
  refine wpAnyN_take (i := 3) (v := ?rv4) rfl (by kernel_rfl) (by kernel_rfl) (by kernel_rfl) (by kernel_rfl) (by kernel_rfl) (fun _ _ _ h => h) (Or.inl ⟨by rfl, ?rh4⟩) hHeld ?_
  case rh4 => (intro w hSw; (try dsimp only at hSw); go_simp; try with_reducible rfl)
  refine wpAnyN_take (i := 4) (v := ?rv5) rfl (by kernel_rfl) (by kernel_rfl) (by kernel_rfl) (by kernel_rfl) (by kernel_rfl) (fun _ _ _ h => h) (Or.inl ⟨by rfl, ?rh5⟩) hHeld ?_
  case rh5 => (intro w hSw; (try dsimp only at hSw); go_simp; try with_reducible rfl)
  refine wpAnyN_take (i := 5) (v := ?rv6) rfl (by kernel_rfl) (by kernel_rfl) (by kernel_rfl) (by kernel_rfl) (by kernel_rfl) (fun _ _ _ h => h) (Or.inl ⟨by rfl, ?rh6⟩) hHeld ?_
  case rh6 => (intro w hSw; (try dsimp only at hSw); go_simp; try with_reducible rfl)
  refine wpAnyN_take (i := 6) (v := ?rv7) rfl (by kernel_rfl) (by kernel_rfl) (by kernel_rfl) (by kernel_rfl) (by kernel_rfl) (fun _ _ _ h => h) (Or.inl ⟨by rfl, ?rh7⟩) hHeld ?_
  case rh7 => (intro w hSw; (try dsimp only at hSw); go_simp; try with_reducible rfl)
  refine wpAnyN_ready (rs := [7]) (by kernel_rfl) (by simp) ?_
  refine AllN.cons rfl (fun K rK8 => ?_) ?_
  · go_simp
    refine rK8.go _ _ (Lib.cell?_alloc_some _ cb) (fun rS8 => ?_)
    clear rK8 K
    refine wpAnyN_ready (rs := [8]) (by kernel_rfl) (by simp) ?_
    refine AllN.cons rfl (fun K rK9 => ?_) ?_
    · refine step_append_lies _ (by rfl) _ _ _ (by rfl) w0.heap.size 27 i0 _ 7 88 Tryz.underlying24 hi0 hz0 hz1 hz2 rfl (by omega) (.slice (some ⟨g, 0, none⟩) st.length cap) st.length xs (by rfl) ((h2.alloc _).drew)
        ⟨w.heap.size, 0, none⟩ 1 1 [.int .i64 0, .string ⟨#[]⟩, .string ⟨#[]⟩, .int .i64 0, .int .i64 0, .bool false, .slice none 0 0] (by rfl) (by rfl) (World.news_of_block (cs := #[.int .i64 0, .string ⟨#[]⟩, .string ⟨#[]⟩, .int .i64 0, .int .i64 0, .bool false, .slice none 0 0]) (t := 27) (fr := (0, 0)) (heap_alloc_new w _)) (by simp [Value.oneCell'])
        (by omega) (by unfold maxLen; omega) (by omega) (by have := hB.bl.size; simp; omega) (w.heap.size + 1) (by simp) ?_
      intro gg cap1 w2 hown1 hgrow hat hlt
      obtain ⟨⟨d0, d1, d2, d3, d4, d5, d6⟩, dz⟩ := row_last hown1 (by rw [h3.length]; omega)
      have dz0 := dz (st.length * 7); have dz1 := dz (st.length * 7 + 1); have dz2 := dz (st.length * 7 + 2); have dz3 := dz (st.length * 7 + 3); have dz4 := dz (st.length * 7 + 4); have dz5 := dz (st.length * 7 + 5); have dz6 := dz (st.length * 7 + 6)
      clear dz
      obtain ⟨cur, hcur⟩ := row_block hown1
      obtain ⟨cur0, hcur0⟩ := row_block h2
      have bg : b ≠ g := fun e => by rw [← e, h1] at hcur0; cases hcur0
      have hb2 : w2.heap[b]? = some (.cells #[.slice (some ⟨g, 0, none⟩) st.length cap] 75 (0, 0)) := by
        rw [hgrow.block b (by simp; omega) (fun e => bg (Option.some.inj e))]; exact ((((Bl.refl w).alloc _).drew).block hb).trans h1
      have bne : gg ≠ b := fun e => by rw [e, hb2] at hcur; cases hcur
      have e0 : w2.cell? ⟨b, 0, none⟩ = some (.slice (some ⟨g, 0, none⟩) st.length cap) := by rw [Lib.cell_of_heap hb2]; rfl
      have ez : w2.frozen? ⟨b, 0, none⟩ = false := Lib.frozen_of_heap hb2 0
      clear hcur hcur0 hb2
      refine rK9.out _ _ (not_early (by kernel_rfl)) ?_
      clear rK9 K
      refine wpAnyN_pass (i := 9) (v := ?rv10) rfl (by kernel_rfl) (by kernel_rfl) (by kernel_rfl) (by kernel_rfl) (fun _ _ _ h => h) (Or.inl ⟨by rfl, ?rh10⟩) ?_
      case rh10 => (intro w; go_simp; try with_reducible rfl)
      refine wpAnyN_pass (i := 11) (v := ?rv11) rfl (by kernel_rfl) (by kernel_rfl) (by kernel_rfl) (by kernel_rfl) (fun _ _ _ h => h) (Or.inl ⟨by rfl, ?rh11⟩) ?_
      case rh11 => (intro w; go_simp; try with_reducible rfl)
      refine wpAnyN_pass (i := 12) (v := ?rv12) rfl (by kernel_rfl) (by kernel_rfl) (by kernel_rfl) (by kernel_rfl) (fun _ _ _ h => h) (Or.inl ⟨by rfl, ?rh12⟩) ?_
      case rh12 => (intro w; go_simp; try with_reducible rfl)
      refine wpAnyN_ready (rs := [10, 13]) (by kernel_rfl) (by simp) ?_
      refine AllN.cons rfl (fun K rK13 => ?_) ?_
      · go_simp
        refine rK13.out _ _ (not_early (by kernel_rfl)) ?_
        clear rK13 K
        refine wpAnyN_ready (rs := [13]) (by kernel_rfl) (by simp) ?_
        refine AllN.cons rfl (fun K rK14 => ?_) ?_
        · go_simp
          refine rK14.out _ _ (not_early (by kernel_rfl)) ?_
          clear rK14 K
          refine wpAnyN_done (by kernel_rfl) ?_ _
          go_wp2
          go_end0
          have E := bbegin_end (k := k) hB (((Bl.refl w).alloc _).drew) h1 h2 h3 hown1 rfl hgrow (by rcases hat with h | h; exact .inl (Option.some.inj h); exact .inr (by omega))
          obtain ⟨E1, E2⟩ := E
          refine ⟨rfl, ⟨gg, ?_⟩, ?_⟩
          all_goals first
            | (rw [nodeV, setCells7, mkB_nil] at E1; with_reducible exact E1)
            | (rw [nodeV, setCells7, mkB_nil] at E2; with_reducible exact E2)
            | (rw [← setCells_comm gg ⟨b, 0, none⟩ _ (Ne.symm bne), nodeV, setCells7, mkB_nil] at E1; with_reducible exact E1)
            | (rw [← setCells_comm gg ⟨b, 0, none⟩ _ (Ne.symm bne), nodeV, setCells7, mkB_nil] at E2; with_reducible exact E2)
        exact AllN.nil
      refine AllN.cons rfl (fun K rK15 => ?_) ?_
      · go_simp
        refine rK15.out _ _ (not_early (by kernel_rfl)) ?_
        clear rK15 K
        refine wpAnyN_ready (rs := [10]) (by kernel_rfl) (by simp) ?_
        refine AllN.cons rfl (fun K rK16 => ?_) ?_
        · go_simp
          refine rK16.out _ _ (not_early (by kernel_rfl)) ?_
          clear rK16 K
          refine wpAnyN_done (by kernel_rfl) ?_ _
          go_wp2
          go_end0
          have E := bbegin_end (k := k) hB (((Bl.refl w).alloc _).drew) h1 h2 h3 hown1 rfl hgrow (by rcases hat with h | h; exact .inl (Option.some.inj h); exact .inr (by omega))
          obtain ⟨E1, E2⟩ := E
          refine ⟨rfl, ⟨gg, ?_⟩, ?_⟩
          all_goals first
            | (rw [nodeV, setCells7, mkB_nil] at E1; with_reducible exact E1)
            | (rw [nodeV, setCells7, mkB_nil] at E2; with_reducible exact E2)
            | (rw [← setCells_comm gg ⟨b, 0, none⟩ _ (Ne.symm bne), nodeV, setCells7, mkB_nil] at E1; with_reducible exact E1)
            | (rw [← setCells_comm gg ⟨b, 0, none⟩ _ (Ne.symm bne), nodeV, setCells7, mkB_nil] at E2; with_reducible exact E2)
        exact AllN.nil
      exact AllN.nil
    exact AllN.nil
  exact AllN.nil

end Go.Proofs.YtjocbifjmchbcaaGreatDoor
/- The builder's end. -/
namespace Go.Proofs.YtjocbifjmchbcaaGreatDoor
open Go.RowKit

theorem ownsRow_cut {w : World} {base : Nat} {e : TypeId} {size g n m cap : Nat} {xs ys : List Value} (h : w.ownsRow base e size (.slice (some ⟨g, 0, none⟩) n cap) n (xs ++ ys)) (hm : m ≤ n) (hx : xs.length = m * size) : w.ownsRow base e size (.slice (some ⟨g, 0, none⟩) m cap) m xs := by
  refine ⟨hx, ?_⟩
  rcases h.2 with ⟨h1, _⟩ | ⟨g', cap', cur, h1, hb, hh, h2, h3, h4, h5⟩
  · cases h1
  · cases h1
    refine .inr ⟨g, cap, cur, rfl, hb, hh, by omega, h3, h4, ?_⟩
    have := congrArg (List.take (m * size)) h5
    rw [List.take_take, Nat.min_eq_left (Nat.mul_le_mul_right _ hm), ← hx, List.take_left] at this
    rw [hx] at this
    exact this

/-- What lies behind b.open = b.open[:k]. -/
theorem bend_mid {w0 w w1 : World} {b g k1 : Nat} {f1 : Fo} {v1 : Value} {st : Os} (hB : BdS w0 w b g ((k1, f1, v1) :: st)) (hbl : Bl w w1) {cap : Nat} (h1 : w.heap[b]? = some (.cells #[.slice (some ⟨g, 0, none⟩) (st.length + 1) cap] 75 (0, 0))) :
    BdS w0 (w1.setCell ⟨b, 0, none⟩ (.slice (some ⟨g, 0, none⟩) st.length cap)) b g st ∧ Rep (w1.setCell ⟨b, 0, none⟩ (.slice (some ⟨g, 0, none⟩) st.length cap)) (g :: blks st) v1 f1 ∧ Oth2 w (w1.setCell ⟨b, 0, none⟩ (.slice (some ⟨g, 0, none⟩) st.length cap)) := by
  obtain ⟨cap', xs, e1, h2, ys, zs, h3, h4, h5, h6⟩ := hB.ex
  rw [h1] at e1
  cases e1
  dsimp only at h3 h4 h5
  have hb := heap_lt h1
  have nd := hB.nd
  have hb1 : w1.heap[b]? = some (.cells #[.slice (some ⟨g, 0, none⟩) (st.length + 1) cap] 75 (0, 0)) := by rw [hbl.block hb]; exact h1
  have s := grownBy_setCell w1 ⟨b, 0, none⟩ (.slice (some ⟨g, 0, none⟩) st.length cap)
  have F : Fr (g :: blks ((k1, f1, v1) :: st)) w (w1.setCell ⟨b, 0, none⟩ (.slice (some ⟨g, 0, none⟩) st.length cap)) := (Fr.of_bl _ hbl).trans (Fr.of_grown (L := g :: blks ((k1, f1, v1) :: st)) s (fun x hx => .inr ⟨_, _, _, by cases hx; exact hb1, by decide⟩)) (fun x hx => .inl hx)
  have hb4 : (w1.setCell ⟨b, 0, none⟩ (.slice (some ⟨g, 0, none⟩) st.length cap)).heap[b]? = some (.cells #[.slice (some ⟨g, 0, none⟩) st.length cap] 75 (0, 0)) := by
    simp [World.setCell, Array.getElem?_modify, hb1]
  obtain ⟨w4, hw4⟩ : ∃ w4, w1.setCell ⟨b, 0, none⟩ (.slice (some ⟨g, 0, none⟩) st.length cap) = w4 := ⟨_, rfl⟩
  rw [hw4] at s F hb4 ⊢
  obtain ⟨cur, hcur⟩ := row_block h2
  have hne : b ≠ g := fun e => by rw [← e, h1] at hcur; cases hcur
  have hsub : ∀ x ∈ g :: blks st, x ∈ g :: blks ((k1, f1, v1) :: st) := fun x hx => by
    rcases List.mem_cons.1 hx with rfl | hx
    · exact List.mem_cons_self
    · obtain ⟨y, hy, hk⟩ := mem_blks.1 hx
      exact List.mem_cons_of_mem _ (mem_blks.2 ⟨y, List.mem_cons_of_mem _ hy, hk⟩)
  have same : ∀ x, x < w.heap.size → x ≠ b → w4.heap[x]? = w.heap[x]? := fun x hx hn => by
    rw [s.block x (Nat.lt_of_lt_of_le hx hbl.size) (fun e => hn (Option.some.inj e)), hbl.block hx]
  have typed : ∀ {L : List Nat} {st' : Os} {xs' : List Value}, OpenX w w0.heap.size L st' xs' → ∀ x ∈ blks st', x ≠ b := by
    intro L st' xs' h x hx e
    obtain ⟨y, hy, hk⟩ := mem_blks.1 hx
    have : ∀ (st' : Os) (xs' : List Value), OpenX w w0.heap.size L st' xs' → ∀ y ∈ st', y.2.2.ownBlock = some x → ∃ cur, w.heap[x]? = some (.cells cur 27 (0, 0)) := by
      intro st'
      induction st' with
      | nil => intro _ _ y hy; cases hy
      | cons a r ih =>
        intro xs' h y hy hk
        obtain ⟨ys, zs, _, h2, _, h4⟩ := h
        rcases List.mem_cons.1 hy with rfl | hy
        · rcases h2.2 with ⟨h', _⟩ | ⟨g', cap', cur, h', _, hh, _⟩
          · rw [h'] at hk; cases hk
          · rw [h'] at hk; cases hk; exact ⟨cur, hh⟩
        · exact ih _ h4 y hy hk
    obtain ⟨cur', hc'⟩ := this st' xs' h y hy hk
    rw [e, h1] at hc'; cases hc'
  have hnd : (blks ((k1, f1, v1) :: st)).Nodup := (List.nodup_cons.1 nd).2
  have hv : ∀ x, v1.ownBlock = some x → x ∉ g :: blks st := fun x hx hm => by
    rcases List.mem_cons.1 hm with rfl | hm
    · exact (List.nodup_cons.1 nd).1 (mem_blks.2 ⟨_, List.mem_cons_self, hx⟩)
    · unfold blks at hnd
      rw [List.filterMap_cons] at hnd
      simp only [hx] at hnd
      exact (List.nodup_cons.1 hnd).1 hm
  have hv1 : ∀ x, v1.ownBlock = some x → x ≠ b := fun x hx e => by
    rcases h4.2 with ⟨h', _⟩ | ⟨g', cap', cur, h', _, hh, _⟩
    · rw [h'] at hx; cases hx
    · rw [h'] at hx; cases hx; rw [show g' = b from e, h1] at hh; cases hh
  refine ⟨⟨⟨cap, ys, hb4, ?_, ?_⟩, ?_, ?_, hB.ge⟩, ?_, (Oth2.of_bl hbl).trans (Oth2.of_grown s (fun x hx => by cases hx; exact ⟨_, _, _, hb1, .inr rfl⟩))⟩
  · have a := ownsRow_same (w' := w4) h2 (fun x hx => same x (by cases hx; exact heap_lt hcur) (fun e => by cases hx; exact hne e.symm))
    rw [h3] at a
    exact ownsRow_cut a (by simp) (by rw [h6.length]; omega)
  · exact h6.more F (fun x hx => .inl (hsub x hx)) (fun x hx => same x (h6.lt x hx).2 (typed h6 x hx))
  · refine List.nodup_cons.2 ⟨fun hm => (List.nodup_cons.1 nd).1 (by
      rcases List.mem_cons.1 (hsub g List.mem_cons_self) with h | h
      · obtain ⟨y, hy, hk⟩ := mem_blks.1 hm
        exact mem_blks.2 ⟨y, List.mem_cons_of_mem _ hy, hk⟩
      · exact h), ?_⟩
    unfold blks at hnd
    rw [List.filterMap_cons] at hnd
    split at hnd
    · exact hnd
    · exact (List.nodup_cons.1 hnd).2
  · exact (hB.bl.trans hbl).grown s (fun x hx => by cases hx; exact hB.ge)
  · exact Rep.of_row (ownsRow_same (w' := w4) h4 (fun x hx => same x (h4.lt x hx).2 (hv1 x hx))) (h5.more F (fun x hx => .inl (hsub x hx))) hv

set_option maxRecDepth 100000 in
set_option maxHeartbeats 1600000 in
theorem bend_any (w0 w : World) (b g k0 k1 : Nat) (f0 f1 : Fo) (v0 v1 : Value) (r : Os) (hB : BdS w0 w b g ((k1, f1, v1) :: (k0, f0, v0) :: r)) (hlen : f0.len ≤ 1000000) (hr : r.length ≤ 1000000) :
    Calls Tryz.prog 84 #[.pointer (some ⟨b, 0, none⟩)] w fun e w' => e = .returned (.tuple #[]) ∧ (∃ v2, BdS w0 w' b g ((k0, f0.snoc k1 [] [] f1, v2) :: r)) ∧ Oth2 w w' := by
  obtain ⟨cap, xs, h1, h2, ys, zs, h3, h4, h5, h6⟩ := hB.ex
  have hb := heap_lt h1
  have cb : w.cell? ⟨b, 0, none⟩ = some (.slice (some ⟨g, 0, none⟩) (r.length + 2) cap) := by rw [Lib.cell_of_heap h1]; rfl
  have bz : w.frozen? ⟨b, 0, none⟩ = false := Lib.frozen_of_heap h1 0
  dsimp only at h3 h4 h5
  have hl6 := h6.length
  rw [h3] at h2
  obtain ⟨⟨d0, d1, d2, d3, d4, d5, d6⟩, _⟩ := row_last h2 (by rw [hl6]; simp; omega)
  simp only [List.length_cons] at d0 d1 d2 d3 d4 d5 d6
  obtain ⟨ao, c0, rfl⟩ := ownsRow_slice h4
  have hi1 : (0 : Int) ≤ ((r.length : Nat) : Int) := Int.natCast_nonneg _
  have M := bend_mid (w1 := w) hB (Bl.refl w) h1
  have hcap : ((r.length : Nat) : Int) + 2 - 1 ≤ (cap : Int) := by
    rcases h2.2 with ⟨h', _⟩ | ⟨g', cap', cur, h', _, _, hc, _⟩
    · cases h'
    · cases h'; simp at hc; omega
  have hgb : g < w.heap.size := (h2.lt g rfl).2
  go_enter Tryz.func84, Tryz.ntmps84
  go_wp2_with fail
  have M1 := M.1.more ((Bl.refl _).alloc (.cells #[.int .i64 (k1 : Int), .string (mkB []), .string (mkB []), .int .i64 0, .int .i64 0, .bool false, .slice ao f1.len c0] 27))
  have M2 := M.2.1.more (Fr.alloc _ _ (.cells #[.int .i64 (k1 : Int), .string (mkB []), .string (mkB []), .int .i64 0, .int .i64 0, .bool false, .slice ao f1.len c0] 27)) (fun x hx => .inl hx)
  refine (badd_any w0 _ b g k0 f0 v0 r M1 k1 [] [] _ f1 M2 hlen hr).mono ?_
  rintro e w2 ⟨rfl, ⟨v2, hB2⟩, hO⟩
  go_wp2
  go_end0
  exact ⟨rfl, ⟨v2, hB2⟩, (M.2.2.trans (Oth2.of_bl ((Bl.refl _).alloc _))).trans hO⟩

end Go.Proofs.YtjocbifjmchbcaaGreatDoor
/- Contracts of Go's library at this program, laid by the kit's shelf in plain words: those that this claim leans on. -/
namespace Go.Proofs
open Go.Shelf
def Tryz.lays169_ren : Go.Shelf.Ren := ⟨fun | 169 => 27 | n => n, fun | 70 => 54 | 9 => 9 | 0 => 0 | 72 => 56 | 37 => 37 | 127 => 100 | 3 => 3 | 5 => 5 | n => n, fun | n => n⟩
theorem Tryz.lays169 : Go.Proofs.Lays.n169 Tryz.prog Tryz.lays169_ren := {
  mixed := by kernel_rfl
  f169 := Tryz.func27.trans (congrArg some (by kernel_rfl))
  t0 := Tryz.underlying0
  a0 := Tryz.isAgg0
  z0 := Tryz.sizeOf0
  v0 := Tryz.zeroValue0
  t3 := Tryz.underlying3
  a3 := Tryz.isAgg3
  z3 := Tryz.sizeOf3
  v3 := Tryz.zeroValue3
  t9 := Tryz.underlying9
  a9 := Tryz.isAgg9
  z9 := Tryz.sizeOf9
  v9 := Tryz.zeroValue9
  t37 := Tryz.underlying37
  a37 := Tryz.isAgg37
  z37 := Tryz.sizeOf37
  v37 := Tryz.zeroValue37
  t70 := Tryz.underlying54
  a70 := Tryz.isAgg54
  z70 := Tryz.sizeOf54
  v70 := Tryz.zeroValue54
  t72 := Tryz.underlying56
  a72 := Tryz.isAgg56
  z72 := Tryz.sizeOf56
  v72 := Tryz.zeroValue56
  t127 := Tryz.underlying100
  a127 := Tryz.isAgg100
  z127 := Tryz.sizeOf100
  v127 := Tryz.zeroValue100 }
theorem Tryz.Builder_Extra_169 : Builder.Extra Tryz.prog Tryz.lays169_ren := {
  sizeBuilder := by kernel_rfl
  liesBuilder := by kernel_rfl
  t5 := Tryz.underlying5
  a5 := Tryz.isAgg5
  z5 := Tryz.sizeOf5
  v5 := Tryz.zeroValue5
  infoByte := by kernel_rfl
  cellsByte := by kernel_rfl
  sizeByte := by kernel_rfl
  neB5 := by decide }
def Tryz.lays156_ren : Go.Shelf.Ren := ⟨fun | 156 => 185 | 165 => 137 | 166 => 59 | 169 => 27 | 240 => 102 | 241 => 204 | 276 => 155 | 277 => 249 | n => n, fun | 31 => 23 | 9 => 9 | 3 => 3 | 4 => 4 | 0 => 0 | 20 => 20 | 72 => 56 | 76 => 97 | 70 => 54 | 37 => 37 | 75 => 96 | 127 => 100 | 164 => 195 | 5 => 5 | 80 => 58 | n => n, fun | n => n⟩
theorem Tryz.lays156 : Go.Proofs.Lays.n156 Tryz.prog Tryz.lays156_ren := {
  mixed := by kernel_rfl
  f156 := Tryz.func185.trans (congrArg some (by kernel_rfl))
  f165 := Tryz.func137.trans (congrArg some (by kernel_rfl))
  f166 := Tryz.func59.trans (congrArg some (by kernel_rfl))
  f169 := Tryz.func27.trans (congrArg some (by kernel_rfl))
  f240 := Tryz.func102.trans (congrArg some (by kernel_rfl))
  f241 := Tryz.func204.trans (congrArg some (by kernel_rfl))
  f276 := Tryz.func155.trans (congrArg some (by kernel_rfl))
  f277 := Tryz.func249.trans (congrArg some (by kernel_rfl))
  t0 := Tryz.underlying0
  a0 := Tryz.isAgg0
  z0 := Tryz.sizeOf0
  v0 := Tryz.zeroValue0
  t3 := Tryz.underlying3
  a3 := Tryz.isAgg3
  z3 := Tryz.sizeOf3
  v3 := Tryz.zeroValue3
  t4 := Tryz.underlying4
  a4 := Tryz.isAgg4
  z4 := Tryz.sizeOf4
  v4 := Tryz.zeroValue4
  t9 := Tryz.underlying9
  a9 := Tryz.isAgg9
  z9 := Tryz.sizeOf9
  v9 := Tryz.zeroValue9
  t20 := Tryz.underlying20
  a20 := Tryz.isAgg20
  z20 := Tryz.sizeOf20
  v20 := Tryz.zeroValue20
  t31 := Tryz.underlying23
  a31 := Tryz.isAgg23
  z31 := Tryz.sizeOf23
  v31 := Tryz.zeroValue23
  t37 := Tryz.underlying37
  a37 := Tryz.isAgg37
  z37 := Tryz.sizeOf37
  v37 := Tryz.zeroValue37
  t70 := Tryz.underlying54
  a70 := Tryz.isAgg54
  z70 := Tryz.sizeOf54
  v70 := Tryz.zeroValue54
  t72 := Tryz.underlying56
  a72 := Tryz.isAgg56
  z72 := Tryz.sizeOf56
  v72 := Tryz.zeroValue56
  t75 := Tryz.underlying96
  a75 := Tryz.isAgg96
  z75 := Tryz.sizeOf96
  v75 := Tryz.zeroValue96
  t76 := Tryz.underlying97
  a76 := Tryz.isAgg97
  z76 := Tryz.sizeOf97
  v76 := Tryz.zeroValue97
  t127 := Tryz.underlying100
  a127 := Tryz.isAgg100
  z127 := Tryz.sizeOf100
  v127 := Tryz.zeroValue100
  t164 := Tryz.underlying195
  a164 := Tryz.isAgg195
  z164 := Tryz.sizeOf195
  v164 := Tryz.zeroValue195 }
theorem Tryz.Builder_Extra_156 : Builder.Extra Tryz.prog Tryz.lays156_ren := {
  sizeBuilder := by kernel_rfl
  liesBuilder := by kernel_rfl
  t5 := Tryz.underlying5
  a5 := Tryz.isAgg5
  z5 := Tryz.sizeOf5
  v5 := Tryz.zeroValue5
  infoByte := by kernel_rfl
  cellsByte := by kernel_rfl
  sizeByte := by kernel_rfl
  neB5 := by decide }
open Go.RowKit in
theorem Tryz.strings_Join_none (a : Option Addr) (c : Nat) (sep : ByteArray) (w : World) :
    Calls Tryz.prog 185 #[.slice a 0 c, .string sep] w fun e w' => e = .returned (.string ⟨#[]⟩) ∧ w' = w := Any.strings_Join_none Tryz.lays156 Tryz.Builder_Extra_156 a c sep w
open Go.RowKit in
theorem Tryz.strings_Join (bk o c : Nat) (xs : List ByteArray) (sep : ByteArray) (w : World) (hcells : ∀ (j : Nat) x, xs[j]? = some x → w.cell? ⟨bk, o + j, none⟩ = some (.string x)) (hbk : bk < w.heap.size) (hN : xs.length ≤ 140737488355328) (hcap : xs.length ≤ c) (hlen : (Lib.join (xs.map (·.data.toList)) sep.data.toList).length ≤ 140737488355328) :
    Calls Tryz.prog 185 #[.slice (some ⟨bk, o, none⟩) xs.length c, .string sep] w fun e w' => e = .returned (.string ⟨(Lib.join (xs.map (·.data.toList)) sep.data.toList).toArray⟩) ∧ Below w.heap.size w w' := Any.strings_Join Tryz.lays156 Tryz.Builder_Extra_156 bk o c xs sep w hcells hbk hN hcap hlen
def Tryz.lays161_ren : Go.Shelf.Ren := ⟨fun | 161 => 242 | 231 => 227 | 227 => 126 | 233 => 228 | 235 => 229 | 228 => 131 | 197 => 116 | 151 => 196 | 260 => 179 | 152 => 129 | 137 => 107 | 119 => 197 | 224 => 198 | 225 => 199 | 217 => 162 | 266 => 225 | n => n, fun | 9 => 9 | 4 => 4 | 3 => 3 | 5 => 5 | 117 => 167 | 116 => 166 | 0 => 0 | 124 => 170 | 105 => 154 | 21 => 21 | 119 => 252 | 46 => 184 | 139 => 255 | 138 => 254 | n => n, fun | 3 => 0 | 4 => 1 | n => n⟩
theorem Tryz.lays161 : Go.Proofs.Lays.n161 Tryz.prog Tryz.lays161_ren := {
  mixed := by kernel_rfl
  f119 := Tryz.func197.trans (congrArg some (by kernel_rfl))
  f137 := Tryz.func107.trans (congrArg some (by kernel_rfl))
  f151 := Tryz.func196.trans (congrArg some (by kernel_rfl))
  f152 := Tryz.func129.trans (congrArg some (by kernel_rfl))
  f161 := Tryz.func242.trans (congrArg some (by kernel_rfl))
  f197 := Tryz.func116.trans (congrArg some (by kernel_rfl))
  f217 := Tryz.func162.trans (congrArg some (by kernel_rfl))
  f224 := Tryz.func198.trans (congrArg some (by kernel_rfl))
  f225 := Tryz.func199.trans (congrArg some (by kernel_rfl))
  f227 := Tryz.func126.trans (congrArg some (by kernel_rfl))
  f228 := Tryz.func131.trans (congrArg some (by kernel_rfl))
  f231 := Tryz.func227.trans (congrArg some (by kernel_rfl))
  f233 := Tryz.func228.trans (congrArg some (by kernel_rfl))
  f235 := Tryz.func229.trans (congrArg some (by kernel_rfl))
  f260 := Tryz.func179.trans (congrArg some (by kernel_rfl))
  f266 := Tryz.func225.trans (congrArg some (by kernel_rfl))
  t0 := Tryz.underlying0
  a0 := Tryz.isAgg0
  z0 := Tryz.sizeOf0
  v0 := Tryz.zeroValue0
  t3 := Tryz.underlying3
  a3 := Tryz.isAgg3
  z3 := Tryz.sizeOf3
  v3 := Tryz.zeroValue3
  t4 := Tryz.underlying4
  a4 := Tryz.isAgg4
  z4 := Tryz.sizeOf4
  v4 := Tryz.zeroValue4
  t5 := Tryz.underlying5
  a5 := Tryz.isAgg5
  z5 := Tryz.sizeOf5
  v5 := Tryz.zeroValue5
  t9 := Tryz.underlying9
  a9 := Tryz.isAgg9
  z9 := Tryz.sizeOf9
  v9 := Tryz.zeroValue9
  t21 := Tryz.underlying21
  a21 := Tryz.isAgg21
  z21 := Tryz.sizeOf21
  v21 := Tryz.zeroValue21
  t46 := Tryz.underlying184
  a46 := Tryz.isAgg184
  z46 := Tryz.sizeOf184
  v46 := Tryz.zeroValue184
  t105 := Tryz.underlying154
  a105 := Tryz.isAgg154
  z105 := Tryz.sizeOf154
  v105 := Tryz.zeroValue154
  t116 := Tryz.underlying166
  a116 := Tryz.isAgg166
  z116 := Tryz.sizeOf166
  t117 := Tryz.underlying167
  a117 := Tryz.isAgg167
  z117 := Tryz.sizeOf167
  v117 := Tryz.zeroValue167
  t119 := Tryz.underlying252
  a119 := Tryz.isAgg252
  z119 := Tryz.sizeOf252
  t124 := Tryz.underlying170
  a124 := Tryz.isAgg170
  z124 := Tryz.sizeOf170
  v124 := Tryz.zeroValue170
  t138 := Tryz.underlying254
  a138 := Tryz.isAgg254
  z138 := Tryz.sizeOf254
  v138 := Tryz.zeroValue254
  t139 := Tryz.underlying255
  a139 := Tryz.isAgg255
  z139 := Tryz.sizeOf255
  v139 := Tryz.zeroValue255
  g3 := by kernel_rfl
  g4 := by kernel_rfl }
open Go.RowKit in
theorem Tryz.strings_TrimLeft_one (s : ByteArray) (c : UInt8) (hc : c.toNat < 128) (w : World) :
    Calls Tryz.prog 242 #[.string s, .string ⟨#[c]⟩] w fun e w' => e = .returned (.string ⟨(Lib.trimLeftB s.data.toList c).toArray⟩) ∧ w' = w := Any.strings_TrimLeft_one Tryz.lays161 s c hc w
def Tryz.lays162_ren : Go.Shelf.Ren := ⟨fun | 162 => 80 | 232 => 125 | 227 => 126 | 234 => 127 | 236 => 128 | 228 => 131 | 271 => 115 | 151 => 196 | 120 => 178 | 197 => 116 | 152 => 129 | 260 => 179 | 137 => 107 | 119 => 197 | 224 => 198 | 225 => 199 | 217 => 162 | 266 => 225 | n => n, fun | 9 => 9 | 4 => 4 | 3 => 3 | 5 => 5 | 117 => 167 | 116 => 166 | 0 => 0 | 124 => 170 | 21 => 21 | 105 => 154 | 46 => 184 | 119 => 252 | 139 => 255 | 138 => 254 | n => n, fun | 3 => 0 | 4 => 1 | n => n⟩
theorem Tryz.lays162 : Go.Proofs.Lays.n162 Tryz.prog Tryz.lays162_ren := {
  mixed := by kernel_rfl
  f119 := Tryz.func197.trans (congrArg some (by kernel_rfl))
  f120 := Tryz.func178.trans (congrArg some (by kernel_rfl))
  f137 := Tryz.func107.trans (congrArg some (by kernel_rfl))
  f151 := Tryz.func196.trans (congrArg some (by kernel_rfl))
  f152 := Tryz.func129.trans (congrArg some (by kernel_rfl))
  f162 := Tryz.func80.trans (congrArg some (by kernel_rfl))
  f197 := Tryz.func116.trans (congrArg some (by kernel_rfl))
  f217 := Tryz.func162.trans (congrArg some (by kernel_rfl))
  f224 := Tryz.func198.trans (congrArg some (by kernel_rfl))
  f225 := Tryz.func199.trans (congrArg some (by kernel_rfl))
  f227 := Tryz.func126.trans (congrArg some (by kernel_rfl))
  f228 := Tryz.func131.trans (congrArg some (by kernel_rfl))
  f232 := Tryz.func125.trans (congrArg some (by kernel_rfl))
  f234 := Tryz.func127.trans (congrArg some (by kernel_rfl))
  f236 := Tryz.func128.trans (congrArg some (by kernel_rfl))
  f260 := Tryz.func179.trans (congrArg some (by kernel_rfl))
  f266 := Tryz.func225.trans (congrArg some (by kernel_rfl))
  f271 := Tryz.func115.trans (congrArg some (by kernel_rfl))
  t0 := Tryz.underlying0
  a0 := Tryz.isAgg0
  z0 := Tryz.sizeOf0
  v0 := Tryz.zeroValue0
  t3 := Tryz.underlying3
  a3 := Tryz.isAgg3
  z3 := Tryz.sizeOf3
  v3 := Tryz.zeroValue3
  t4 := Tryz.underlying4
  a4 := Tryz.isAgg4
  z4 := Tryz.sizeOf4
  v4 := Tryz.zeroValue4
  t5 := Tryz.underlying5
  a5 := Tryz.isAgg5
  z5 := Tryz.sizeOf5
  v5 := Tryz.zeroValue5
  t9 := Tryz.underlying9
  a9 := Tryz.isAgg9
  z9 := Tryz.sizeOf9
  v9 := Tryz.zeroValue9
  t21 := Tryz.underlying21
  a21 := Tryz.isAgg21
  z21 := Tryz.sizeOf21
  v21 := Tryz.zeroValue21
  t46 := Tryz.underlying184
  a46 := Tryz.isAgg184
  z46 := Tryz.sizeOf184
  v46 := Tryz.zeroValue184
  t105 := Tryz.underlying154
  a105 := Tryz.isAgg154
  z105 := Tryz.sizeOf154
  v105 := Tryz.zeroValue154
  t116 := Tryz.underlying166
  a116 := Tryz.isAgg166
  z116 := Tryz.sizeOf166
  t117 := Tryz.underlying167
  a117 := Tryz.isAgg167
  z117 := Tryz.sizeOf167
  v117 := Tryz.zeroValue167
  t119 := Tryz.underlying252
  a119 := Tryz.isAgg252
  z119 := Tryz.sizeOf252
  t124 := Tryz.underlying170
  a124 := Tryz.isAgg170
  z124 := Tryz.sizeOf170
  v124 := Tryz.zeroValue170
  t138 := Tryz.underlying254
  a138 := Tryz.isAgg254
  z138 := Tryz.sizeOf254
  v138 := Tryz.zeroValue254
  t139 := Tryz.underlying255
  a139 := Tryz.isAgg255
  z139 := Tryz.sizeOf255
  v139 := Tryz.zeroValue255
  g3 := by kernel_rfl
  g4 := by kernel_rfl }
open Go.RowKit in
theorem Tryz.strings_TrimRight_one (s : ByteArray) (c : UInt8) (hc : c.toNat < 128) (w : World) (hs : s.size ≤ 9223372036854775807) :
    Calls Tryz.prog 80 #[.string s, .string ⟨#[c]⟩] w fun e w' => e = .returned (.string ⟨(Lib.trimRightB s.data.toList c).toArray⟩) ∧ w' = w := Any.strings_TrimRight_one Tryz.lays162 s c hc w hs
def Tryz.lays160_ren : Go.Shelf.Ren := ⟨fun | 160 => 164 | 232 => 125 | 231 => 227 | 227 => 126 | 234 => 127 | 233 => 228 | 236 => 128 | 235 => 229 | 228 => 131 | 271 => 115 | 151 => 196 | 197 => 116 | 120 => 178 | 152 => 129 | 260 => 179 | 137 => 107 | 119 => 197 | 224 => 198 | 225 => 199 | 217 => 162 | 266 => 225 | n => n, fun | 9 => 9 | 4 => 4 | 3 => 3 | 5 => 5 | 117 => 167 | 116 => 166 | 0 => 0 | 124 => 170 | 21 => 21 | 105 => 154 | 46 => 184 | 119 => 252 | 139 => 255 | 138 => 254 | n => n, fun | 3 => 0 | 4 => 1 | n => n⟩
theorem Tryz.lays160 : Go.Proofs.Lays.n160 Tryz.prog Tryz.lays160_ren := {
  mixed := by kernel_rfl
  f119 := Tryz.func197.trans (congrArg some (by kernel_rfl))
  f120 := Tryz.func178.trans (congrArg some (by kernel_rfl))
  f137 := Tryz.func107.trans (congrArg some (by kernel_rfl))
  f151 := Tryz.func196.trans (congrArg some (by kernel_rfl))
  f152 := Tryz.func129.trans (congrArg some (by kernel_rfl))
  f160 := Tryz.func164.trans (congrArg some (by kernel_rfl))
  f197 := Tryz.func116.trans (congrArg some (by kernel_rfl))
  f217 := Tryz.func162.trans (congrArg some (by kernel_rfl))
  f224 := Tryz.func198.trans (congrArg some (by kernel_rfl))
  f225 := Tryz.func199.trans (congrArg some (by kernel_rfl))
  f227 := Tryz.func126.trans (congrArg some (by kernel_rfl))
  f228 := Tryz.func131.trans (congrArg some (by kernel_rfl))
  f231 := Tryz.func227.trans (congrArg some (by kernel_rfl))
  f232 := Tryz.func125.trans (congrArg some (by kernel_rfl))
  f233 := Tryz.func228.trans (congrArg some (by kernel_rfl))
  f234 := Tryz.func127.trans (congrArg some (by kernel_rfl))
  f235 := Tryz.func229.trans (congrArg some (by kernel_rfl))
  f236 := Tryz.func128.trans (congrArg some (by kernel_rfl))
  f260 := Tryz.func179.trans (congrArg some (by kernel_rfl))
  f266 := Tryz.func225.trans (congrArg some (by kernel_rfl))
  f271 := Tryz.func115.trans (congrArg some (by kernel_rfl))
  t0 := Tryz.underlying0
  a0 := Tryz.isAgg0
  z0 := Tryz.sizeOf0
  v0 := Tryz.zeroValue0
  t3 := Tryz.underlying3
  a3 := Tryz.isAgg3
  z3 := Tryz.sizeOf3
  v3 := Tryz.zeroValue3
  t4 := Tryz.underlying4
  a4 := Tryz.isAgg4
  z4 := Tryz.sizeOf4
  v4 := Tryz.zeroValue4
  t5 := Tryz.underlying5
  a5 := Tryz.isAgg5
  z5 := Tryz.sizeOf5
  v5 := Tryz.zeroValue5
  t9 := Tryz.underlying9
  a9 := Tryz.isAgg9
  z9 := Tryz.sizeOf9
  v9 := Tryz.zeroValue9
  t21 := Tryz.underlying21
  a21 := Tryz.isAgg21
  z21 := Tryz.sizeOf21
  v21 := Tryz.zeroValue21
  t46 := Tryz.underlying184
  a46 := Tryz.isAgg184
  z46 := Tryz.sizeOf184
  v46 := Tryz.zeroValue184
  t105 := Tryz.underlying154
  a105 := Tryz.isAgg154
  z105 := Tryz.sizeOf154
  v105 := Tryz.zeroValue154
  t116 := Tryz.underlying166
  a116 := Tryz.isAgg166
  z116 := Tryz.sizeOf166
  t117 := Tryz.underlying167
  a117 := Tryz.isAgg167
  z117 := Tryz.sizeOf167
  v117 := Tryz.zeroValue167
  t119 := Tryz.underlying252
  a119 := Tryz.isAgg252
  z119 := Tryz.sizeOf252
  t124 := Tryz.underlying170
  a124 := Tryz.isAgg170
  z124 := Tryz.sizeOf170
  v124 := Tryz.zeroValue170
  t138 := Tryz.underlying254
  a138 := Tryz.isAgg254
  z138 := Tryz.sizeOf254
  v138 := Tryz.zeroValue254
  t139 := Tryz.underlying255
  a139 := Tryz.isAgg255
  z139 := Tryz.sizeOf255
  v139 := Tryz.zeroValue255
  g3 := by kernel_rfl
  g4 := by kernel_rfl }
open Go.RowKit in
theorem Tryz.strings_Trim_one (s : ByteArray) (c : UInt8) (hc : c.toNat < 128) (w : World) (hs : s.size ≤ 9223372036854775807) :
    Calls Tryz.prog 164 #[.string s, .string ⟨#[c]⟩] w fun e w' => e = .returned (.string ⟨(Lib.trimB s.data.toList c).toArray⟩) ∧ (w' = w ∨ w' = w.drew) := Any.strings_Trim_one Tryz.lays160 s c hc w hs
def Tryz.lays119_ren : Go.Shelf.Ren := ⟨fun | 119 => 197 | n => n, fun | 21 => 21 | 4 => 4 | n => n, fun | n => n⟩
theorem Tryz.lays119 : Go.Proofs.Lays.n119 Tryz.prog Tryz.lays119_ren := {
  mixed := by kernel_rfl
  f119 := Tryz.func197.trans (congrArg some (by kernel_rfl))
  t4 := Tryz.underlying4
  a4 := Tryz.isAgg4
  z4 := Tryz.sizeOf4
  v4 := Tryz.zeroValue4
  t21 := Tryz.underlying21
  a21 := Tryz.isAgg21
  z21 := Tryz.sizeOf21
  v21 := Tryz.zeroValue21 }
theorem Tryz.utf8_ValidRune (r : Int) (w : World) :
    Calls Tryz.prog 197 #[.int .i32 r] w fun e w' => e = .returned (.bool (Lib.validRune r)) ∧ w' = w := Any.utf8_ValidRune Tryz.lays119 r w
def Tryz.lays137_ren : Go.Shelf.Ren := ⟨fun | 137 => 107 | 217 => 162 | 266 => 225 | n => n, fun | 9 => 9 | 5 => 5 | 3 => 3 | n => n, fun | n => n⟩
theorem Tryz.lays137 : Go.Proofs.Lays.n137 Tryz.prog Tryz.lays137_ren := {
  mixed := by kernel_rfl
  f137 := Tryz.func107.trans (congrArg some (by kernel_rfl))
  f217 := Tryz.func162.trans (congrArg some (by kernel_rfl))
  f266 := Tryz.func225.trans (congrArg some (by kernel_rfl))
  t3 := Tryz.underlying3
  a3 := Tryz.isAgg3
  z3 := Tryz.sizeOf3
  v3 := Tryz.zeroValue3
  t5 := Tryz.underlying5
  a5 := Tryz.isAgg5
  z5 := Tryz.sizeOf5
  v5 := Tryz.zeroValue5
  t9 := Tryz.underlying9
  a9 := Tryz.isAgg9
  z9 := Tryz.sizeOf9
  v9 := Tryz.zeroValue9 }
open Go.RowKit in
theorem Tryz.strings_IndexByte (s : ByteArray) (c : Int) (w : World) :
    Calls Tryz.prog 107 #[.string s, .int .u8 c] w fun e w' => e = .returned (.int .i64 (Lib.indexByte s.data.toList c.toNat.toUInt8)) ∧ w' = w := Any.strings_IndexByte Tryz.lays137 s c w
def Tryz.lays103_ren : Go.Shelf.Ren := ⟨fun | 103 => 119 | 210 => 183 | 206 => 75 | n => n, fun | 9 => 9 | 4 => 4 | 24 => 108 | 3 => 3 | n => n, fun | n => n⟩
theorem Tryz.lays103 : Go.Proofs.Lays.n103 Tryz.prog Tryz.lays103_ren := {
  mixed := by kernel_rfl
  f103 := Tryz.func119.trans (congrArg some (by kernel_rfl))
  f206 := Tryz.func75.trans (congrArg some (by kernel_rfl))
  f210 := Tryz.func183.trans (congrArg some (by kernel_rfl))
  t3 := Tryz.underlying3
  a3 := Tryz.isAgg3
  z3 := Tryz.sizeOf3
  v3 := Tryz.zeroValue3
  t4 := Tryz.underlying4
  a4 := Tryz.isAgg4
  z4 := Tryz.sizeOf4
  v4 := Tryz.zeroValue4
  t9 := Tryz.underlying9
  a9 := Tryz.isAgg9
  z9 := Tryz.sizeOf9
  v9 := Tryz.zeroValue9
  t24 := Tryz.underlying108
  a24 := Tryz.isAgg108
  z24 := Tryz.sizeOf108
  v24 := Tryz.zeroValue108 }
open Go.RowKit in
theorem Tryz.strings_CutPrefix (s p : ByteArray) (w : World) :
    Calls Tryz.prog 119 #[.string s, .string p] w fun e w' => e = .returned (.tuple #[.string ⟨(Lib.trimPrefix s.data.toList p.data.toList).toArray⟩, .bool (Lib.hasPrefix s.data.toList p.data.toList)]) ∧ w' = w := Any.strings_CutPrefix Tryz.lays103 s p w
open Go.RowKit in
theorem Tryz.Builder_String_k (B b : Nat) (l : List UInt8) (w : World) (h : Lib.IsBuilderF 56 5 B b (Lib.byteCells l) w) (h0 : l ≠ []) :
    Calls Tryz.prog 27 #[.pointer (some ⟨b, 0, none⟩)] w fun e w' => e = .returned (.string ⟨l.toArray⟩) ∧ (Lib.IsBuilderF 56 5 B b (Lib.byteCells l) w' ∧ Below B w w' ∧ Lib.OthersKept 5 (some b) w w') := Any.Builder_String_k Tryz.lays169 Tryz.Builder_Extra_169 B b l w h h0
open Go.RowKit in
theorem Tryz.Builder_String_empty_k (B b : Nat) (w : World) (h : Lib.IsBuilderF 56 5 B b [] w) (hBw : B ≤ w.heap.size) :
    Calls Tryz.prog 27 #[.pointer (some ⟨b, 0, none⟩)] w fun e w' => e = .returned (.string ⟨#[]⟩) ∧ (Lib.IsBuilderF 56 5 B b [] w' ∧ Below B w w' ∧ Lib.OthersKept 5 (some b) w w') := Any.Builder_String_empty_k Tryz.lays169 Tryz.Builder_Extra_169 B b w h hBw
open Go.RowKit in
theorem Tryz.Builder_String_any_k (B b : Nat) (l : List UInt8) (w : World) (h : Lib.IsBuilderF 56 5 B b (Lib.byteCells l) w) (hBw : B ≤ w.heap.size) :
    Calls Tryz.prog 27 #[.pointer (some ⟨b, 0, none⟩)] w fun e w' => e = .returned (.string ⟨l.toArray⟩) ∧ (Lib.IsBuilderF 56 5 B b (Lib.byteCells l) w' ∧ Below B w w' ∧ Lib.OthersKept 5 (some b) w w') := Any.Builder_String_any_k Tryz.lays169 Tryz.Builder_Extra_169 B b l w h hBw
def Tryz.lays242_ren : Go.Shelf.Ren := ⟨fun | 242 => 278 | 278 => 284 | n => n, fun | 37 => 37 | 21 => 21 | 51 => 228 | 4 => 4 | 5 => 5 | 46 => 184 | n => n, fun | n => n⟩
theorem Tryz.lays242 : Go.Proofs.Lays.n242 Tryz.prog Tryz.lays242_ren := {
  mixed := by kernel_rfl
  f242 := Tryz.func278.trans (congrArg some (by kernel_rfl))
  f278 := Tryz.func284.trans (congrArg some (by kernel_rfl))
  t4 := Tryz.underlying4
  a4 := Tryz.isAgg4
  z4 := Tryz.sizeOf4
  v4 := Tryz.zeroValue4
  t5 := Tryz.underlying5
  a5 := Tryz.isAgg5
  z5 := Tryz.sizeOf5
  v5 := Tryz.zeroValue5
  t21 := Tryz.underlying21
  a21 := Tryz.isAgg21
  z21 := Tryz.sizeOf21
  v21 := Tryz.zeroValue21
  t37 := Tryz.underlying37
  a37 := Tryz.isAgg37
  z37 := Tryz.sizeOf37
  v37 := Tryz.zeroValue37
  t46 := Tryz.underlying184
  a46 := Tryz.isAgg184
  z46 := Tryz.sizeOf184
  v46 := Tryz.zeroValue184
  t51 := Tryz.underlying228
  a51 := Tryz.isAgg228
  z51 := Tryz.sizeOf228
  v51 := Tryz.zeroValue228 }
open Go.RowKit in
theorem Tryz.utf8_AppendRune_plain (B : Nat) (v : Value) (n : Nat) (xs : List Value) (r : Int) (hr0 : -2147483648 ≤ r) (hr1 : r ≤ 2147483647) (w : World) (hown : w.ownsRow B 5 1 v n xs) (hlen : n + 4 ≤ 140737488355328) (hBw : B ≤ w.heap.size) :
    Calls Tryz.prog 278 #[v, .int .i32 r] w fun e w' => ∃ v', e = .returned v' ∧ w'.ownsRow B 5 1 v' (n + (Lib.runeCells r).length) (xs ++ Lib.runeCells r) ∧ ∃ o, (w.alloc o).grownBy w' v.ownBlock := Any.utf8_AppendRune_plain Tryz.lays242 (by kernel_rfl) B v n xs r hr0 hr1 w hown hlen hBw
def Tryz.lays143_ren : Go.Shelf.Ren := ⟨fun | 143 => 176 | 219 => 218 | 217 => 162 | 225 => 199 | 224 => 198 | 267 => 260 | 266 => 225 | 314 => 270 | n => n, fun | 9 => 9 | 3 => 3 | 4 => 4 | 5 => 5 | 46 => 184 | 146 => 229 | 51 => 228 | n => n, fun | 1 => 2 | n => n⟩
theorem Tryz.lays143 : Go.Proofs.Lays.n143 Tryz.prog Tryz.lays143_ren := {
  mixed := by kernel_rfl
  f143 := Tryz.func176.trans (congrArg some (by kernel_rfl))
  f217 := Tryz.func162.trans (congrArg some (by kernel_rfl))
  f219 := Tryz.func218.trans (congrArg some (by kernel_rfl))
  f224 := Tryz.func198.trans (congrArg some (by kernel_rfl))
  f225 := Tryz.func199.trans (congrArg some (by kernel_rfl))
  f266 := Tryz.func225.trans (congrArg some (by kernel_rfl))
  f267 := Tryz.func260.trans (congrArg some (by kernel_rfl))
  f314 := Tryz.func270.trans (congrArg some (by kernel_rfl))
  t3 := Tryz.underlying3
  a3 := Tryz.isAgg3
  z3 := Tryz.sizeOf3
  v3 := Tryz.zeroValue3
  t4 := Tryz.underlying4
  a4 := Tryz.isAgg4
  z4 := Tryz.sizeOf4
  v4 := Tryz.zeroValue4
  t5 := Tryz.underlying5
  a5 := Tryz.isAgg5
  z5 := Tryz.sizeOf5
  v5 := Tryz.zeroValue5
  t9 := Tryz.underlying9
  a9 := Tryz.isAgg9
  z9 := Tryz.sizeOf9
  v9 := Tryz.zeroValue9
  t46 := Tryz.underlying184
  a46 := Tryz.isAgg184
  z46 := Tryz.sizeOf184
  v46 := Tryz.zeroValue184
  t51 := Tryz.underlying228
  a51 := Tryz.isAgg228
  z51 := Tryz.sizeOf228
  v51 := Tryz.zeroValue228
  t146 := Tryz.underlying229
  a146 := Tryz.isAgg229
  z146 := Tryz.sizeOf229
  v146 := Tryz.zeroValue229
  g1 := by kernel_rfl }
open Go.RowKit Go.Lib in
theorem Tryz.strings_Index (s sub : ByteArray) (m : Int) (w : World) (hs : s.size < 4294967281) (hm : w.cell? ⟨2, 0, none⟩ = some (.int .i64 m)) :
    Calls Tryz.prog 176 #[.string s, .string sub] w fun e w' => e = .returned (.int .i64 (Lib.index s.data.toList sub.data.toList)) ∧ w' = w := Any.strings_Index Tryz.lays143 s sub m w hs hm
def Tryz.lays145_ren : Go.Shelf.Ren := ⟨fun | 145 => 105 | 220 => 157 | 219 => 218 | 217 => 162 | 225 => 199 | 224 => 198 | 267 => 260 | 266 => 225 | 314 => 270 | n => n, fun | 9 => 9 | 4 => 4 | 59 => 144 | 3 => 3 | 5 => 5 | 46 => 184 | 146 => 229 | 51 => 228 | n => n, fun | 1 => 2 | n => n⟩
theorem Tryz.lays145 : Go.Proofs.Lays.n145 Tryz.prog Tryz.lays145_ren := {
  mixed := by kernel_rfl
  f145 := Tryz.func105.trans (congrArg some (by kernel_rfl))
  f217 := Tryz.func162.trans (congrArg some (by kernel_rfl))
  f219 := Tryz.func218.trans (congrArg some (by kernel_rfl))
  f220 := Tryz.func157.trans (congrArg some (by kernel_rfl))
  f224 := Tryz.func198.trans (congrArg some (by kernel_rfl))
  f225 := Tryz.func199.trans (congrArg some (by kernel_rfl))
  f266 := Tryz.func225.trans (congrArg some (by kernel_rfl))
  f267 := Tryz.func260.trans (congrArg some (by kernel_rfl))
  f314 := Tryz.func270.trans (congrArg some (by kernel_rfl))
  t3 := Tryz.underlying3
  a3 := Tryz.isAgg3
  z3 := Tryz.sizeOf3
  v3 := Tryz.zeroValue3
  t4 := Tryz.underlying4
  a4 := Tryz.isAgg4
  z4 := Tryz.sizeOf4
  v4 := Tryz.zeroValue4
  t5 := Tryz.underlying5
  a5 := Tryz.isAgg5
  z5 := Tryz.sizeOf5
  v5 := Tryz.zeroValue5
  t9 := Tryz.underlying9
  a9 := Tryz.isAgg9
  z9 := Tryz.sizeOf9
  v9 := Tryz.zeroValue9
  t46 := Tryz.underlying184
  a46 := Tryz.isAgg184
  z46 := Tryz.sizeOf184
  v46 := Tryz.zeroValue184
  t51 := Tryz.underlying228
  a51 := Tryz.isAgg228
  z51 := Tryz.sizeOf228
  v51 := Tryz.zeroValue228
  t59 := Tryz.underlying144
  a59 := Tryz.isAgg144
  z59 := Tryz.sizeOf144
  v59 := Tryz.zeroValue144
  t146 := Tryz.underlying229
  a146 := Tryz.isAgg229
  z146 := Tryz.sizeOf229
  v146 := Tryz.zeroValue229
  g1 := by kernel_rfl }
open Go.RowKit Go.Lib in
theorem Tryz.strings_Cut (s sep : ByteArray) (m : Int) (w : World) (hs : s.size < 4294967281) (hm : w.cell? ⟨2, 0, none⟩ = some (.int .i64 m)) :
    Calls Tryz.prog 105 #[.string s, .string sep] w fun e w' => e = .returned (.tuple #[.string ⟨(Lib.cut s.data.toList sep.data.toList).1.toArray⟩, .string ⟨(Lib.cut s.data.toList sep.data.toList).2.1.toArray⟩, .bool (Lib.cut s.data.toList sep.data.toList).2.2]) ∧ ∃ n, w' = w.drewN n := Any.strings_Cut Tryz.lays145 s sep m w hs hm
def Tryz.lays138_ren : Go.Shelf.Ren := ⟨fun | 138 => 264 | 195 => 276 | 218 => 277 | 143 => 176 | 219 => 218 | 217 => 162 | 225 => 199 | 224 => 198 | 267 => 260 | 266 => 225 | 314 => 270 | n => n, fun | 9 => 9 | 3 => 3 | 4 => 4 | 5 => 5 | 0 => 0 | 46 => 184 | 146 => 229 | 51 => 228 | n => n, fun | 1 => 2 | n => n⟩
theorem Tryz.lays138 : Go.Proofs.Lays.n138 Tryz.prog Tryz.lays138_ren := {
  mixed := by kernel_rfl
  f138 := Tryz.func264.trans (congrArg some (by kernel_rfl))
  f143 := Tryz.func176.trans (congrArg some (by kernel_rfl))
  f195 := Tryz.func276.trans (congrArg some (by kernel_rfl))
  f217 := Tryz.func162.trans (congrArg some (by kernel_rfl))
  f218 := Tryz.func277.trans (congrArg some (by kernel_rfl))
  f219 := Tryz.func218.trans (congrArg some (by kernel_rfl))
  f224 := Tryz.func198.trans (congrArg some (by kernel_rfl))
  f225 := Tryz.func199.trans (congrArg some (by kernel_rfl))
  f266 := Tryz.func225.trans (congrArg some (by kernel_rfl))
  f267 := Tryz.func260.trans (congrArg some (by kernel_rfl))
  f314 := Tryz.func270.trans (congrArg some (by kernel_rfl))
  t0 := Tryz.underlying0
  a0 := Tryz.isAgg0
  z0 := Tryz.sizeOf0
  v0 := Tryz.zeroValue0
  t3 := Tryz.underlying3
  a3 := Tryz.isAgg3
  z3 := Tryz.sizeOf3
  v3 := Tryz.zeroValue3
  t4 := Tryz.underlying4
  a4 := Tryz.isAgg4
  z4 := Tryz.sizeOf4
  v4 := Tryz.zeroValue4
  t5 := Tryz.underlying5
  a5 := Tryz.isAgg5
  z5 := Tryz.sizeOf5
  v5 := Tryz.zeroValue5
  t9 := Tryz.underlying9
  a9 := Tryz.isAgg9
  z9 := Tryz.sizeOf9
  v9 := Tryz.zeroValue9
  t46 := Tryz.underlying184
  a46 := Tryz.isAgg184
  z46 := Tryz.sizeOf184
  v46 := Tryz.zeroValue184
  t51 := Tryz.underlying228
  a51 := Tryz.isAgg228
  z51 := Tryz.sizeOf228
  v51 := Tryz.zeroValue228
  t146 := Tryz.underlying229
  a146 := Tryz.isAgg229
  z146 := Tryz.sizeOf229
  v146 := Tryz.zeroValue229
  g1 := by kernel_rfl }
open Go.RowKit Go.Lib in
theorem Tryz.strings_Count_one (s : ByteArray) (c : UInt8) (w : World) :
    Calls Tryz.prog 264 #[.string s, .string ⟨#[c]⟩] w fun e w' => e = .returned (.int .i64 (Lib.countByte s.data.toList c)) ∧ w' = w := Any.strings_Count_one Tryz.lays138 s c w
def Tryz.lays99_ren : Go.Shelf.Ren := ⟨fun | 99 => 34 | 206 => 75 | n => n, fun | 9 => 9 | 4 => 4 | 3 => 3 | n => n, fun | n => n⟩
theorem Tryz.lays99 : Go.Proofs.Lays.n99 Tryz.prog Tryz.lays99_ren := {
  mixed := by kernel_rfl
  f99 := Tryz.func34.trans (congrArg some (by kernel_rfl))
  f206 := Tryz.func75.trans (congrArg some (by kernel_rfl))
  t3 := Tryz.underlying3
  a3 := Tryz.isAgg3
  z3 := Tryz.sizeOf3
  v3 := Tryz.zeroValue3
  t4 := Tryz.underlying4
  a4 := Tryz.isAgg4
  z4 := Tryz.sizeOf4
  v4 := Tryz.zeroValue4
  t9 := Tryz.underlying9
  a9 := Tryz.isAgg9
  z9 := Tryz.sizeOf9
  v9 := Tryz.zeroValue9 }
open Go.RowKit Go.Lib in
theorem Tryz.strings_HasPrefix (s p : ByteArray) (w : World) :
    Calls Tryz.prog 34 #[.string s, .string p] w fun e w' => e = .returned (.bool (Lib.hasPrefix s.data.toList p.data.toList)) ∧ w' = w := Any.strings_HasPrefix Tryz.lays99 s p w
def Tryz.lays100_ren : Go.Shelf.Ren := ⟨fun | 100 => 165 | 207 => 230 | n => n, fun | 9 => 9 | 4 => 4 | 3 => 3 | n => n, fun | n => n⟩
theorem Tryz.lays100 : Go.Proofs.Lays.n100 Tryz.prog Tryz.lays100_ren := {
  mixed := by kernel_rfl
  f100 := Tryz.func165.trans (congrArg some (by kernel_rfl))
  f207 := Tryz.func230.trans (congrArg some (by kernel_rfl))
  t3 := Tryz.underlying3
  a3 := Tryz.isAgg3
  z3 := Tryz.sizeOf3
  v3 := Tryz.zeroValue3
  t4 := Tryz.underlying4
  a4 := Tryz.isAgg4
  z4 := Tryz.sizeOf4
  v4 := Tryz.zeroValue4
  t9 := Tryz.underlying9
  a9 := Tryz.isAgg9
  z9 := Tryz.sizeOf9
  v9 := Tryz.zeroValue9 }
open Go.RowKit Go.Lib in
theorem Tryz.strings_HasSuffix (s p : ByteArray) (w : World) (hs : s.size ≤ 9223372036854775807) :
    Calls Tryz.prog 165 #[.string s, .string p] w fun e w' => e = .returned (.bool (Lib.hasSuffix s.data.toList p.data.toList)) ∧ w' = w := Any.strings_HasSuffix Tryz.lays100 s p w hs
def Tryz.lays146_ren : Go.Shelf.Ren := ⟨fun | 146 => 169 | 221 => 232 | 268 => 265 | 138 => 264 | 143 => 176 | 195 => 276 | 197 => 116 | 218 => 277 | 219 => 218 | 260 => 179 | 217 => 162 | 225 => 199 | 224 => 198 | 267 => 260 | 266 => 225 | 314 => 270 | n => n, fun | 9 => 9 | 31 => 23 | 3 => 3 | 4 => 4 | 0 => 0 | 105 => 154 | 21 => 21 | 5 => 5 | 46 => 184 | 119 => 252 | 139 => 255 | 138 => 254 | 146 => 229 | 51 => 228 | n => n, fun | 1 => 2 | 3 => 0 | 4 => 1 | n => n⟩
theorem Tryz.lays146 : Go.Proofs.Lays.n146 Tryz.prog Tryz.lays146_ren := {
  mixed := by kernel_rfl
  f138 := Tryz.func264.trans (congrArg some (by kernel_rfl))
  f143 := Tryz.func176.trans (congrArg some (by kernel_rfl))
  f146 := Tryz.func169.trans (congrArg some (by kernel_rfl))
  f195 := Tryz.func276.trans (congrArg some (by kernel_rfl))
  f197 := Tryz.func116.trans (congrArg some (by kernel_rfl))
  f217 := Tryz.func162.trans (congrArg some (by kernel_rfl))
  f218 := Tryz.func277.trans (congrArg some (by kernel_rfl))
  f219 := Tryz.func218.trans (congrArg some (by kernel_rfl))
  f221 := Tryz.func232.trans (congrArg some (by kernel_rfl))
  f224 := Tryz.func198.trans (congrArg some (by kernel_rfl))
  f225 := Tryz.func199.trans (congrArg some (by kernel_rfl))
  f260 := Tryz.func179.trans (congrArg some (by kernel_rfl))
  f266 := Tryz.func225.trans (congrArg some (by kernel_rfl))
  f267 := Tryz.func260.trans (congrArg some (by kernel_rfl))
  f268 := Tryz.func265.trans (congrArg some (by kernel_rfl))
  f314 := Tryz.func270.trans (congrArg some (by kernel_rfl))
  t0 := Tryz.underlying0
  a0 := Tryz.isAgg0
  z0 := Tryz.sizeOf0
  v0 := Tryz.zeroValue0
  t3 := Tryz.underlying3
  a3 := Tryz.isAgg3
  z3 := Tryz.sizeOf3
  v3 := Tryz.zeroValue3
  t4 := Tryz.underlying4
  a4 := Tryz.isAgg4
  z4 := Tryz.sizeOf4
  v4 := Tryz.zeroValue4
  t5 := Tryz.underlying5
  a5 := Tryz.isAgg5
  z5 := Tryz.sizeOf5
  v5 := Tryz.zeroValue5
  t9 := Tryz.underlying9
  a9 := Tryz.isAgg9
  z9 := Tryz.sizeOf9
  v9 := Tryz.zeroValue9
  t21 := Tryz.underlying21
  a21 := Tryz.isAgg21
  z21 := Tryz.sizeOf21
  v21 := Tryz.zeroValue21
  t31 := Tryz.underlying23
  a31 := Tryz.isAgg23
  z31 := Tryz.sizeOf23
  v31 := Tryz.zeroValue23
  t46 := Tryz.underlying184
  a46 := Tryz.isAgg184
  z46 := Tryz.sizeOf184
  v46 := Tryz.zeroValue184
  t51 := Tryz.underlying228
  a51 := Tryz.isAgg228
  z51 := Tryz.sizeOf228
  v51 := Tryz.zeroValue228
  t105 := Tryz.underlying154
  a105 := Tryz.isAgg154
  z105 := Tryz.sizeOf154
  v105 := Tryz.zeroValue154
  t119 := Tryz.underlying252
  a119 := Tryz.isAgg252
  z119 := Tryz.sizeOf252
  t138 := Tryz.underlying254
  a138 := Tryz.isAgg254
  z138 := Tryz.sizeOf254
  v138 := Tryz.zeroValue254
  t139 := Tryz.underlying255
  a139 := Tryz.isAgg255
  z139 := Tryz.sizeOf255
  v139 := Tryz.zeroValue255
  t146 := Tryz.underlying229
  a146 := Tryz.isAgg229
  z146 := Tryz.sizeOf229
  v146 := Tryz.zeroValue229
  g1 := by kernel_rfl
  g3 := by kernel_rfl
  g4 := by kernel_rfl }
open Go.RowKit Go.Lib in
theorem Tryz.strings_Split (s sep : ByteArray) (m : Int) (w : World) (hs : s.size < 4294967281) (hm : w.cell? ⟨2, 0, none⟩ = some (.int .i64 m)) (h1 : 1 ≤ sep.size) :
    Calls Tryz.prog 169 #[.string s, .string sep] w fun e w' =>
      e = .returned (.slice (some ⟨w.heap.size, 0, none⟩) (Lib.countB s sep + 1) (Lib.countB s sep + 1)) ∧ w' = w.alloc (.cells ((Lib.splitB sep 0 (Lib.countB s sep) s).map Value.string).toArray 9) := Any.strings_Split Tryz.lays146 (by kernel_rfl) s sep m w hs hm h1
def Tryz.lays155_ren : Go.Shelf.Ren := ⟨fun | 155 => 163 | 154 => 226 | 138 => 264 | 165 => 137 | 143 => 176 | 166 => 59 | 197 => 116 | 169 => 27 | 195 => 276 | 218 => 277 | 240 => 102 | 241 => 204 | 219 => 218 | 260 => 179 | 276 => 155 | 277 => 249 | 217 => 162 | 225 => 199 | 224 => 198 | 267 => 260 | 266 => 225 | 314 => 270 | n => n, fun | 9 => 9 | 3 => 3 | 4 => 4 | 72 => 56 | 0 => 0 | 76 => 97 | 105 => 154 | 21 => 21 | 5 => 5 | 70 => 54 | 20 => 20 | 37 => 37 | 75 => 96 | 127 => 100 | 164 => 195 | 46 => 184 | 119 => 252 | 139 => 255 | 138 => 254 | 146 => 229 | 51 => 228 | 80 => 58 | n => n, fun | 1 => 2 | 3 => 0 | 4 => 1 | n => n⟩
theorem Tryz.lays155 : Go.Proofs.Lays.n155 Tryz.prog Tryz.lays155_ren := {
  mixed := by kernel_rfl
  f138 := Tryz.func264.trans (congrArg some (by kernel_rfl))
  f143 := Tryz.func176.trans (congrArg some (by kernel_rfl))
  f154 := Tryz.func226.trans (congrArg some (by kernel_rfl))
  f155 := Tryz.func163.trans (congrArg some (by kernel_rfl))
  f165 := Tryz.func137.trans (congrArg some (by kernel_rfl))
  f166 := Tryz.func59.trans (congrArg some (by kernel_rfl))
  f169 := Tryz.func27.trans (congrArg some (by kernel_rfl))
  f195 := Tryz.func276.trans (congrArg some (by kernel_rfl))
  f197 := Tryz.func116.trans (congrArg some (by kernel_rfl))
  f217 := Tryz.func162.trans (congrArg some (by kernel_rfl))
  f218 := Tryz.func277.trans (congrArg some (by kernel_rfl))
  f219 := Tryz.func218.trans (congrArg some (by kernel_rfl))
  f224 := Tryz.func198.trans (congrArg some (by kernel_rfl))
  f225 := Tryz.func199.trans (congrArg some (by kernel_rfl))
  f240 := Tryz.func102.trans (congrArg some (by kernel_rfl))
  f241 := Tryz.func204.trans (congrArg some (by kernel_rfl))
  f260 := Tryz.func179.trans (congrArg some (by kernel_rfl))
  f266 := Tryz.func225.trans (congrArg some (by kernel_rfl))
  f267 := Tryz.func260.trans (congrArg some (by kernel_rfl))
  f276 := Tryz.func155.trans (congrArg some (by kernel_rfl))
  f277 := Tryz.func249.trans (congrArg some (by kernel_rfl))
  f314 := Tryz.func270.trans (congrArg some (by kernel_rfl))
  t0 := Tryz.underlying0
  a0 := Tryz.isAgg0
  z0 := Tryz.sizeOf0
  v0 := Tryz.zeroValue0
  t3 := Tryz.underlying3
  a3 := Tryz.isAgg3
  z3 := Tryz.sizeOf3
  v3 := Tryz.zeroValue3
  t4 := Tryz.underlying4
  a4 := Tryz.isAgg4
  z4 := Tryz.sizeOf4
  v4 := Tryz.zeroValue4
  t5 := Tryz.underlying5
  a5 := Tryz.isAgg5
  z5 := Tryz.sizeOf5
  v5 := Tryz.zeroValue5
  t9 := Tryz.underlying9
  a9 := Tryz.isAgg9
  z9 := Tryz.sizeOf9
  v9 := Tryz.zeroValue9
  t20 := Tryz.underlying20
  a20 := Tryz.isAgg20
  z20 := Tryz.sizeOf20
  v20 := Tryz.zeroValue20
  t21 := Tryz.underlying21
  a21 := Tryz.isAgg21
  z21 := Tryz.sizeOf21
  v21 := Tryz.zeroValue21
  t37 := Tryz.underlying37
  a37 := Tryz.isAgg37
  z37 := Tryz.sizeOf37
  v37 := Tryz.zeroValue37
  t46 := Tryz.underlying184
  a46 := Tryz.isAgg184
  z46 := Tryz.sizeOf184
  v46 := Tryz.zeroValue184
  t51 := Tryz.underlying228
  a51 := Tryz.isAgg228
  z51 := Tryz.sizeOf228
  v51 := Tryz.zeroValue228
  t70 := Tryz.underlying54
  a70 := Tryz.isAgg54
  z70 := Tryz.sizeOf54
  v70 := Tryz.zeroValue54
  t72 := Tryz.underlying56
  a72 := Tryz.isAgg56
  z72 := Tryz.sizeOf56
  v72 := Tryz.zeroValue56
  t75 := Tryz.underlying96
  a75 := Tryz.isAgg96
  z75 := Tryz.sizeOf96
  v75 := Tryz.zeroValue96
  t76 := Tryz.underlying97
  a76 := Tryz.isAgg97
  z76 := Tryz.sizeOf97
  v76 := Tryz.zeroValue97
  t105 := Tryz.underlying154
  a105 := Tryz.isAgg154
  z105 := Tryz.sizeOf154
  v105 := Tryz.zeroValue154
  t119 := Tryz.underlying252
  a119 := Tryz.isAgg252
  z119 := Tryz.sizeOf252
  t127 := Tryz.underlying100
  a127 := Tryz.isAgg100
  z127 := Tryz.sizeOf100
  v127 := Tryz.zeroValue100
  t138 := Tryz.underlying254
  a138 := Tryz.isAgg254
  z138 := Tryz.sizeOf254
  v138 := Tryz.zeroValue254
  t139 := Tryz.underlying255
  a139 := Tryz.isAgg255
  z139 := Tryz.sizeOf255
  v139 := Tryz.zeroValue255
  t146 := Tryz.underlying229
  a146 := Tryz.isAgg229
  z146 := Tryz.sizeOf229
  v146 := Tryz.zeroValue229
  t164 := Tryz.underlying195
  a164 := Tryz.isAgg195
  z164 := Tryz.sizeOf195
  v164 := Tryz.zeroValue195
  g1 := by kernel_rfl
  g3 := by kernel_rfl
  g4 := by kernel_rfl }
theorem Tryz.Builder_Extra_155 : Builder.Extra Tryz.prog Tryz.lays155_ren := {
  sizeBuilder := by kernel_rfl
  liesBuilder := by kernel_rfl
  t5 := Tryz.underlying5
  a5 := Tryz.isAgg5
  z5 := Tryz.sizeOf5
  v5 := Tryz.zeroValue5
  infoByte := by kernel_rfl
  cellsByte := by kernel_rfl
  sizeByte := by kernel_rfl
  neB5 := by decide }
open Go.RowKit Go.Lib in
theorem Tryz.strings_ReplaceAll (s old new : ByteArray) (m : Int) (w : World) (hs : s.size < 4294967281) (hm : w.cell? ⟨2, 0, none⟩ = some (.int .i64 m)) (h1 : 1 ≤ old.size) (hlen : s.size + Lib.countB s old * new.size ≤ 140737488355328) :
    Calls Tryz.prog 163 #[.string s, .string old, .string new] w fun e w' =>
      e = .returned (.string ⟨(Lib.replaceAll s.data.toList old.data.toList new.data.toList).toArray⟩) ∧ Below w.heap.size w w' := Any.strings_ReplaceAll Tryz.lays155 Tryz.Builder_Extra_155 s old new m w hs hm h1 hlen
def Tryz.lays197_ren : Go.Shelf.Ren := ⟨fun | 197 => 116 | 260 => 179 | n => n, fun | 9 => 9 | 21 => 21 | 3 => 3 | 4 => 4 | 5 => 5 | 105 => 154 | 119 => 252 | 0 => 0 | 46 => 184 | 139 => 255 | 138 => 254 | n => n, fun | 3 => 0 | 4 => 1 | n => n⟩
theorem Tryz.lays197 : Go.Proofs.Lays.n197 Tryz.prog Tryz.lays197_ren := {
  mixed := by kernel_rfl
  f197 := Tryz.func116.trans (congrArg some (by kernel_rfl))
  f260 := Tryz.func179.trans (congrArg some (by kernel_rfl))
  t0 := Tryz.underlying0
  a0 := Tryz.isAgg0
  z0 := Tryz.sizeOf0
  v0 := Tryz.zeroValue0
  t3 := Tryz.underlying3
  a3 := Tryz.isAgg3
  z3 := Tryz.sizeOf3
  v3 := Tryz.zeroValue3
  t4 := Tryz.underlying4
  a4 := Tryz.isAgg4
  z4 := Tryz.sizeOf4
  v4 := Tryz.zeroValue4
  t5 := Tryz.underlying5
  a5 := Tryz.isAgg5
  z5 := Tryz.sizeOf5
  v5 := Tryz.zeroValue5
  t9 := Tryz.underlying9
  a9 := Tryz.isAgg9
  z9 := Tryz.sizeOf9
  v9 := Tryz.zeroValue9
  t21 := Tryz.underlying21
  a21 := Tryz.isAgg21
  z21 := Tryz.sizeOf21
  v21 := Tryz.zeroValue21
  t46 := Tryz.underlying184
  a46 := Tryz.isAgg184
  z46 := Tryz.sizeOf184
  v46 := Tryz.zeroValue184
  t105 := Tryz.underlying154
  a105 := Tryz.isAgg154
  z105 := Tryz.sizeOf154
  v105 := Tryz.zeroValue154
  t119 := Tryz.underlying252
  a119 := Tryz.isAgg252
  z119 := Tryz.sizeOf252
  t138 := Tryz.underlying254
  a138 := Tryz.isAgg254
  z138 := Tryz.sizeOf254
  v138 := Tryz.zeroValue254
  t139 := Tryz.underlying255
  a139 := Tryz.isAgg255
  z139 := Tryz.sizeOf255
  v139 := Tryz.zeroValue255
  g3 := by kernel_rfl
  g4 := by kernel_rfl }
def Tryz.lays152_ren : Go.Shelf.Ren := ⟨fun | 152 => 129 | 137 => 107 | 119 => 197 | 224 => 198 | 225 => 199 | 217 => 162 | 266 => 225 | n => n, fun | 9 => 9 | 21 => 21 | 3 => 3 | 4 => 4 | 5 => 5 | 0 => 0 | 46 => 184 | n => n, fun | n => n⟩
theorem Tryz.lays152 : Go.Proofs.Lays.n152 Tryz.prog Tryz.lays152_ren := {
  mixed := by kernel_rfl
  f119 := Tryz.func197.trans (congrArg some (by kernel_rfl))
  f137 := Tryz.func107.trans (congrArg some (by kernel_rfl))
  f152 := Tryz.func129.trans (congrArg some (by kernel_rfl))
  f217 := Tryz.func162.trans (congrArg some (by kernel_rfl))
  f224 := Tryz.func198.trans (congrArg some (by kernel_rfl))
  f225 := Tryz.func199.trans (congrArg some (by kernel_rfl))
  f266 := Tryz.func225.trans (congrArg some (by kernel_rfl))
  t0 := Tryz.underlying0
  a0 := Tryz.isAgg0
  z0 := Tryz.sizeOf0
  v0 := Tryz.zeroValue0
  t3 := Tryz.underlying3
  a3 := Tryz.isAgg3
  z3 := Tryz.sizeOf3
  v3 := Tryz.zeroValue3
  t4 := Tryz.underlying4
  a4 := Tryz.isAgg4
  z4 := Tryz.sizeOf4
  v4 := Tryz.zeroValue4
  t5 := Tryz.underlying5
  a5 := Tryz.isAgg5
  z5 := Tryz.sizeOf5
  v5 := Tryz.zeroValue5
  t9 := Tryz.underlying9
  a9 := Tryz.isAgg9
  z9 := Tryz.sizeOf9
  v9 := Tryz.zeroValue9
  t21 := Tryz.underlying21
  a21 := Tryz.isAgg21
  z21 := Tryz.sizeOf21
  v21 := Tryz.zeroValue21
  t46 := Tryz.underlying184
  a46 := Tryz.isAgg184
  z46 := Tryz.sizeOf184
  v46 := Tryz.zeroValue184 }
open Go.RowKit Go.Lib in
theorem Tryz.strings_IndexRune_ascii (s : ByteArray) (r : Int) (w : World) (h0 : 0 ≤ r) (h1 : r < 128) :
    Calls Tryz.prog 129 #[.string s, .int .i32 r] w fun e w' => e = .returned (.int .i64 (Lib.indexByte s.data.toList r.toNat.toUInt8)) ∧ w' = w := Any.strings_IndexRune_ascii Tryz.lays152 s r w h0 h1
def Tryz.lays153_ren : Go.Shelf.Ren := ⟨fun | 153 => 81 | 152 => 129 | 226 => 130 | 227 => 126 | 228 => 131 | 137 => 107 | 119 => 197 | 224 => 198 | 225 => 199 | 217 => 162 | 266 => 225 | n => n, fun | 9 => 9 | 3 => 3 | 4 => 4 | 5 => 5 | 21 => 21 | 117 => 167 | 116 => 166 | 0 => 0 | 46 => 184 | 124 => 170 | n => n, fun | n => n⟩
theorem Tryz.lays153 : Go.Proofs.Lays.n153 Tryz.prog Tryz.lays153_ren := {
  mixed := by kernel_rfl
  f119 := Tryz.func197.trans (congrArg some (by kernel_rfl))
  f137 := Tryz.func107.trans (congrArg some (by kernel_rfl))
  f152 := Tryz.func129.trans (congrArg some (by kernel_rfl))
  f153 := Tryz.func81.trans (congrArg some (by kernel_rfl))
  f217 := Tryz.func162.trans (congrArg some (by kernel_rfl))
  f224 := Tryz.func198.trans (congrArg some (by kernel_rfl))
  f225 := Tryz.func199.trans (congrArg some (by kernel_rfl))
  f226 := Tryz.func130.trans (congrArg some (by kernel_rfl))
  f227 := Tryz.func126.trans (congrArg some (by kernel_rfl))
  f228 := Tryz.func131.trans (congrArg some (by kernel_rfl))
  f266 := Tryz.func225.trans (congrArg some (by kernel_rfl))
  t0 := Tryz.underlying0
  a0 := Tryz.isAgg0
  z0 := Tryz.sizeOf0
  v0 := Tryz.zeroValue0
  t3 := Tryz.underlying3
  a3 := Tryz.isAgg3
  z3 := Tryz.sizeOf3
  v3 := Tryz.zeroValue3
  t4 := Tryz.underlying4
  a4 := Tryz.isAgg4
  z4 := Tryz.sizeOf4
  v4 := Tryz.zeroValue4
  t5 := Tryz.underlying5
  a5 := Tryz.isAgg5
  z5 := Tryz.sizeOf5
  v5 := Tryz.zeroValue5
  t9 := Tryz.underlying9
  a9 := Tryz.isAgg9
  z9 := Tryz.sizeOf9
  v9 := Tryz.zeroValue9
  t21 := Tryz.underlying21
  a21 := Tryz.isAgg21
  z21 := Tryz.sizeOf21
  v21 := Tryz.zeroValue21
  t46 := Tryz.underlying184
  a46 := Tryz.isAgg184
  z46 := Tryz.sizeOf184
  v46 := Tryz.zeroValue184
  t116 := Tryz.underlying166
  a116 := Tryz.isAgg166
  z116 := Tryz.sizeOf166
  t117 := Tryz.underlying167
  a117 := Tryz.isAgg167
  z117 := Tryz.sizeOf167
  v117 := Tryz.zeroValue167
  t124 := Tryz.underlying170
  a124 := Tryz.isAgg170
  z124 := Tryz.sizeOf170
  v124 := Tryz.zeroValue170 }
def Tryz.lays227_ren : Go.Shelf.Ren := ⟨fun | 227 => 126 | n => n, fun | 9 => 9 | 116 => 166 | 4 => 4 | 0 => 0 | 3 => 3 | 5 => 5 | n => n, fun | n => n⟩
theorem Tryz.lays227 : Go.Proofs.Lays.n227 Tryz.prog Tryz.lays227_ren := {
  mixed := by kernel_rfl
  f227 := Tryz.func126.trans (congrArg some (by kernel_rfl))
  t0 := Tryz.underlying0
  a0 := Tryz.isAgg0
  z0 := Tryz.sizeOf0
  v0 := Tryz.zeroValue0
  t3 := Tryz.underlying3
  a3 := Tryz.isAgg3
  z3 := Tryz.sizeOf3
  v3 := Tryz.zeroValue3
  t4 := Tryz.underlying4
  a4 := Tryz.isAgg4
  z4 := Tryz.sizeOf4
  v4 := Tryz.zeroValue4
  t5 := Tryz.underlying5
  a5 := Tryz.isAgg5
  z5 := Tryz.sizeOf5
  v5 := Tryz.zeroValue5
  t9 := Tryz.underlying9
  a9 := Tryz.isAgg9
  z9 := Tryz.sizeOf9
  v9 := Tryz.zeroValue9
  t116 := Tryz.underlying166
  a116 := Tryz.isAgg166
  z116 := Tryz.sizeOf166 }
open Go.RowKit Go.Lib in
theorem Tryz.strings_makeASCIISet (hv116 : ∀ w, (zeroValue 166).run Tryz.prog w = .ok (.agg (Array.replicate 256 (.bool false))) w) (chars : ByteArray) (w : World) (hs : chars.size < 4294967281) (hascii : ∀ (j : Nat) b, chars.data.toList[j]? = some b → b.toNat < 128) :
    Calls Tryz.prog 126 #[.string chars] w fun e w' => e = .returned (.tuple #[.agg (Lib.setCells chars.data.toList), .bool true]) ∧ w' = w.alloc (.cells (Lib.setCells chars.data.toList) 166) := Any.strings_makeASCIISet Tryz.lays227 hv116 (by kernel_rfl) chars w hs hascii
def Tryz.lays228_ren : Go.Shelf.Ren := ⟨fun | 228 => 131 | n => n, fun | 124 => 170 | 5 => 5 | 4 => 4 | 0 => 0 | 116 => 166 | n => n, fun | n => n⟩
theorem Tryz.lays228 : Go.Proofs.Lays.n228 Tryz.prog Tryz.lays228_ren := {
  mixed := by kernel_rfl
  f228 := Tryz.func131.trans (congrArg some (by kernel_rfl))
  t0 := Tryz.underlying0
  a0 := Tryz.isAgg0
  z0 := Tryz.sizeOf0
  v0 := Tryz.zeroValue0
  t4 := Tryz.underlying4
  a4 := Tryz.isAgg4
  z4 := Tryz.sizeOf4
  v4 := Tryz.zeroValue4
  t5 := Tryz.underlying5
  a5 := Tryz.isAgg5
  z5 := Tryz.sizeOf5
  v5 := Tryz.zeroValue5
  t116 := Tryz.underlying166
  a116 := Tryz.isAgg166
  z116 := Tryz.sizeOf166
  t124 := Tryz.underlying170
  a124 := Tryz.isAgg170
  z124 := Tryz.sizeOf170
  v124 := Tryz.zeroValue170 }
open Go.RowKit Go.Lib in
theorem Tryz.asciiSet_contains (b : Nat) (x : UInt8) (v : Bool) (w : World) (hc : w.cell? ⟨b, x.toNat, none⟩ = some (.bool v)) :
    Calls Tryz.prog 131 #[.pointer (some ⟨b, 0, none⟩), .int .u8 x.toNat] w fun e w' => e = .returned (.bool v) ∧ w' = w := Any.asciiSet_contains Tryz.lays228 b x v w hc
open Go.RowKit Go.Lib in
theorem Tryz.strings_IndexAny_long (hv116 : ∀ w, (zeroValue 166).run Tryz.prog w = .ok (.agg (Array.replicate 256 (.bool false))) w) (s chars : ByteArray) (w : World) (h2 : 2 ≤ chars.size) (h8 : 8 < s.size) (hs : s.size < 4294967281) (hcs : chars.size < 4294967281) (hascii : ∀ (j : Nat) b, chars.data.toList[j]? = some b → b.toNat < 128) :
    Calls Tryz.prog 81 #[.string s, .string chars] w fun e w' => e = .returned (.int .i64 (Lib.indexAny s.data.toList chars.data.toList)) ∧ w' = ((w.alloc (.cells (Lib.setCells chars.data.toList) 166)).alloc (.cells (Lib.setCells chars.data.toList) 166)) := Any.strings_IndexAny_long Tryz.lays153 hv116 (by kernel_rfl) s chars w h2 h8 hs hcs hascii
open Go.RowKit Go.Lib in
theorem Tryz.strings_IndexAny (hv116 : ∀ w, (zeroValue 166).run Tryz.prog w = .ok (.agg (Array.replicate 256 (.bool false))) w) (s chars : ByteArray) (w : World) (hs : s.size < 4294967281) (hcs : chars.size < 4294967281) (has : ∀ (j : Nat) b, s.data.toList[j]? = some b → b.toNat < 128) (hac : ∀ (j : Nat) b, chars.data.toList[j]? = some b → b.toNat < 128) :
    Calls Tryz.prog 81 #[.string s, .string chars] w fun e w' => e = .returned (.int .i64 (Lib.indexAny s.data.toList chars.data.toList)) ∧ Below w.heap.size w w' := Any.strings_IndexAny Tryz.lays153 hv116 (by kernel_rfl) s chars w hs hcs has hac
open Go.RowKit Go.Lib in
theorem Tryz.strings_IndexAny_laid (s chars : ByteArray) (w : World) (hs : s.size < 4294967281) (hcs : chars.size < 4294967281) (has : ∀ (j : Nat) b, s.data.toList[j]? = some b → b.toNat < 128) (hac : ∀ (j : Nat) b, chars.data.toList[j]? = some b → b.toNat < 128) :
    Calls Tryz.prog 81 #[.string s, .string chars] w fun e w' => e = .returned (.int .i64 (Lib.indexAny s.data.toList chars.data.toList)) ∧ Below w.heap.size w w' := Any.strings_IndexAny_laid Tryz.lays153 (by kernel_rfl) s chars w hs hcs has hac
def Tryz.lays105_ren : Go.Shelf.Ren := ⟨fun | 105 => 85 | 212 => 136 | 99 => 34 | 165 => 137 | 166 => 59 | 170 => 138 | 169 => 27 | 263 => 202 | 264 => 203 | 206 => 75 | 240 => 102 | 241 => 204 | 276 => 155 | 277 => 249 | n => n, fun | 9 => 9 | 3 => 3 | 4 => 4 | 20 => 20 | 0 => 0 | 46 => 184 | 109 => 185 | 5 => 5 | 72 => 56 | 76 => 97 | 51 => 228 | 146 => 229 | 53 => 231 | 148 => 232 | 70 => 54 | 37 => 37 | 75 => 96 | 127 => 100 | 164 => 195 | 80 => 58 | n => n, fun | n => n⟩
theorem Tryz.lays105 : Go.Proofs.Lays.n105 Tryz.prog Tryz.lays105_ren := {
  mixed := by kernel_rfl
  f99 := Tryz.func34.trans (congrArg some (by kernel_rfl))
  f105 := Tryz.func85.trans (congrArg some (by kernel_rfl))
  f165 := Tryz.func137.trans (congrArg some (by kernel_rfl))
  f166 := Tryz.func59.trans (congrArg some (by kernel_rfl))
  f169 := Tryz.func27.trans (congrArg some (by kernel_rfl))
  f170 := Tryz.func138.trans (congrArg some (by kernel_rfl))
  f206 := Tryz.func75.trans (congrArg some (by kernel_rfl))
  f212 := Tryz.func136.trans (congrArg some (by kernel_rfl))
  f240 := Tryz.func102.trans (congrArg some (by kernel_rfl))
  f241 := Tryz.func204.trans (congrArg some (by kernel_rfl))
  f263 := Tryz.func202.trans (congrArg some (by kernel_rfl))
  f264 := Tryz.func203.trans (congrArg some (by kernel_rfl))
  f276 := Tryz.func155.trans (congrArg some (by kernel_rfl))
  f277 := Tryz.func249.trans (congrArg some (by kernel_rfl))
  t0 := Tryz.underlying0
  a0 := Tryz.isAgg0
  z0 := Tryz.sizeOf0
  v0 := Tryz.zeroValue0
  t3 := Tryz.underlying3
  a3 := Tryz.isAgg3
  z3 := Tryz.sizeOf3
  v3 := Tryz.zeroValue3
  t4 := Tryz.underlying4
  a4 := Tryz.isAgg4
  z4 := Tryz.sizeOf4
  v4 := Tryz.zeroValue4
  t5 := Tryz.underlying5
  a5 := Tryz.isAgg5
  z5 := Tryz.sizeOf5
  v5 := Tryz.zeroValue5
  t9 := Tryz.underlying9
  a9 := Tryz.isAgg9
  z9 := Tryz.sizeOf9
  v9 := Tryz.zeroValue9
  t20 := Tryz.underlying20
  a20 := Tryz.isAgg20
  z20 := Tryz.sizeOf20
  v20 := Tryz.zeroValue20
  t37 := Tryz.underlying37
  a37 := Tryz.isAgg37
  z37 := Tryz.sizeOf37
  v37 := Tryz.zeroValue37
  t46 := Tryz.underlying184
  a46 := Tryz.isAgg184
  z46 := Tryz.sizeOf184
  v46 := Tryz.zeroValue184
  t51 := Tryz.underlying228
  a51 := Tryz.isAgg228
  z51 := Tryz.sizeOf228
  v51 := Tryz.zeroValue228
  t53 := Tryz.underlying231
  a53 := Tryz.isAgg231
  z53 := Tryz.sizeOf231
  v53 := Tryz.zeroValue231
  t70 := Tryz.underlying54
  a70 := Tryz.isAgg54
  z70 := Tryz.sizeOf54
  v70 := Tryz.zeroValue54
  t72 := Tryz.underlying56
  a72 := Tryz.isAgg56
  z72 := Tryz.sizeOf56
  v72 := Tryz.zeroValue56
  t75 := Tryz.underlying96
  a75 := Tryz.isAgg96
  z75 := Tryz.sizeOf96
  v75 := Tryz.zeroValue96
  t76 := Tryz.underlying97
  a76 := Tryz.isAgg97
  z76 := Tryz.sizeOf97
  v76 := Tryz.zeroValue97
  t109 := Tryz.underlying185
  a109 := Tryz.isAgg185
  z109 := Tryz.sizeOf185
  v109 := Tryz.zeroValue185
  t127 := Tryz.underlying100
  a127 := Tryz.isAgg100
  z127 := Tryz.sizeOf100
  v127 := Tryz.zeroValue100
  t146 := Tryz.underlying229
  a146 := Tryz.isAgg229
  z146 := Tryz.sizeOf229
  v146 := Tryz.zeroValue229
  t148 := Tryz.underlying232
  a148 := Tryz.isAgg232
  z148 := Tryz.sizeOf232
  v148 := Tryz.zeroValue232
  t164 := Tryz.underlying195
  a164 := Tryz.isAgg195
  z164 := Tryz.sizeOf195
  v164 := Tryz.zeroValue195 }
theorem Tryz.Builder_Extra_105 : Builder.Extra Tryz.prog Tryz.lays105_ren := {
  sizeBuilder := by kernel_rfl
  liesBuilder := by kernel_rfl
  t5 := Tryz.underlying5
  a5 := Tryz.isAgg5
  z5 := Tryz.sizeOf5
  v5 := Tryz.zeroValue5
  infoByte := by kernel_rfl
  cellsByte := by kernel_rfl
  sizeByte := by kernel_rfl
  neB5 := by decide }
open Go.RowKit Go.Lib in
theorem Tryz.strings_Repeat (s : ByteArray) (c : Nat) (w : World) (hc : c ≤ 9223372036854775807) (hlen : s.size * c ≤ 140737488355328) :
    Calls Tryz.prog 85 #[.string s, .int .i64 c] w fun e w' => e = .returned (.string ⟨(Lib.repeatL s.data.toList c).toArray⟩) ∧ Below w.heap.size w w' := Any.strings_Repeat Tryz.lays105 Tryz.Builder_Extra_105 s c w hc hlen
open Go.RowKit Go.Lib in
theorem Tryz.utf8_DecodeRuneInString (s : ByteArray) (w : World) (hT : Lib.Utf8Tabs 0 1 w) :
    Calls Tryz.prog 116 #[.string s] w fun e w' => e = .returned (.tuple #[.int .i32 (Lib.decodeGo s).1, .int .i64 (Lib.decodeGo s).2]) ∧ Below w.heap.size w w' := Any.utf8_DecodeRuneInString Tryz.lays197 s w hT
def Tryz.lays271_ren : Go.Shelf.Ren := ⟨fun | 271 => 115 | 120 => 178 | 197 => 116 | 260 => 179 | n => n, fun | 9 => 9 | 21 => 21 | 3 => 3 | 4 => 4 | 5 => 5 | 105 => 154 | 119 => 252 | 0 => 0 | 46 => 184 | 139 => 255 | 138 => 254 | n => n, fun | 3 => 0 | 4 => 1 | n => n⟩
theorem Tryz.lays271 : Go.Proofs.Lays.n271 Tryz.prog Tryz.lays271_ren := {
  mixed := by kernel_rfl
  f120 := Tryz.func178.trans (congrArg some (by kernel_rfl))
  f197 := Tryz.func116.trans (congrArg some (by kernel_rfl))
  f260 := Tryz.func179.trans (congrArg some (by kernel_rfl))
  f271 := Tryz.func115.trans (congrArg some (by kernel_rfl))
  t0 := Tryz.underlying0
  a0 := Tryz.isAgg0
  z0 := Tryz.sizeOf0
  v0 := Tryz.zeroValue0
  t3 := Tryz.underlying3
  a3 := Tryz.isAgg3
  z3 := Tryz.sizeOf3
  v3 := Tryz.zeroValue3
  t4 := Tryz.underlying4
  a4 := Tryz.isAgg4
  z4 := Tryz.sizeOf4
  v4 := Tryz.zeroValue4
  t5 := Tryz.underlying5
  a5 := Tryz.isAgg5
  z5 := Tryz.sizeOf5
  v5 := Tryz.zeroValue5
  t9 := Tryz.underlying9
  a9 := Tryz.isAgg9
  z9 := Tryz.sizeOf9
  v9 := Tryz.zeroValue9
  t21 := Tryz.underlying21
  a21 := Tryz.isAgg21
  z21 := Tryz.sizeOf21
  v21 := Tryz.zeroValue21
  t46 := Tryz.underlying184
  a46 := Tryz.isAgg184
  z46 := Tryz.sizeOf184
  v46 := Tryz.zeroValue184
  t105 := Tryz.underlying154
  a105 := Tryz.isAgg154
  z105 := Tryz.sizeOf154
  v105 := Tryz.zeroValue154
  t119 := Tryz.underlying252
  a119 := Tryz.isAgg252
  z119 := Tryz.sizeOf252
  t138 := Tryz.underlying254
  a138 := Tryz.isAgg254
  z138 := Tryz.sizeOf254
  v138 := Tryz.zeroValue254
  t139 := Tryz.underlying255
  a139 := Tryz.isAgg255
  z139 := Tryz.sizeOf255
  v139 := Tryz.zeroValue255
  g3 := by kernel_rfl
  g4 := by kernel_rfl }
open Go.RowKit Go.Lib in
theorem Tryz.utf8_DecodeLastRuneInString (s : ByteArray) (w : World) (hs : s.size ≤ 9223372036854775807) (hT : Lib.Utf8Tabs 0 1 w) :
    Calls Tryz.prog 115 #[.string s] w fun e w' => e = .returned (.tuple #[.int .i32 (Lib.decodeLastL s.data.toList).1, .int .i64 (Lib.decodeLastL s.data.toList).2]) ∧ Below w.heap.size w w' := Any.utf8_DecodeLastRuneInString Tryz.lays271 s w hs hT
def Tryz.lays229_ren : Go.Shelf.Ren := ⟨fun | 229 => 186 | n => n, fun | 9 => 9 | 40 => 143 | 31 => 23 | 152 => 257 | 3 => 3 | 0 => 0 | 4 => 4 | 21 => 21 | 154 => 259 | n => n, fun | n => n⟩
theorem Tryz.lays229 : Go.Proofs.Lays.n229 Tryz.prog Tryz.lays229_ren := {
  mixed := by kernel_rfl
  f229 := Tryz.func186.trans (congrArg some (by kernel_rfl))
  t0 := Tryz.underlying0
  a0 := Tryz.isAgg0
  z0 := Tryz.sizeOf0
  v0 := Tryz.zeroValue0
  t3 := Tryz.underlying3
  a3 := Tryz.isAgg3
  z3 := Tryz.sizeOf3
  v3 := Tryz.zeroValue3
  t4 := Tryz.underlying4
  a4 := Tryz.isAgg4
  z4 := Tryz.sizeOf4
  v4 := Tryz.zeroValue4
  t9 := Tryz.underlying9
  a9 := Tryz.isAgg9
  z9 := Tryz.sizeOf9
  v9 := Tryz.zeroValue9
  t21 := Tryz.underlying21
  a21 := Tryz.isAgg21
  z21 := Tryz.sizeOf21
  v21 := Tryz.zeroValue21
  t31 := Tryz.underlying23
  a31 := Tryz.isAgg23
  z31 := Tryz.sizeOf23
  v31 := Tryz.zeroValue23
  t40 := Tryz.underlying143
  a40 := Tryz.isAgg143
  z40 := Tryz.sizeOf143
  v40 := Tryz.zeroValue143
  t152 := Tryz.underlying257
  a152 := Tryz.isAgg257
  z152 := Tryz.sizeOf257
  v152 := Tryz.zeroValue257
  t154 := Tryz.underlying259
  a154 := Tryz.isAgg259
  z154 := Tryz.sizeOf259
  v154 := Tryz.zeroValue259 }
open Go.RowKit Go.Lib in
theorem Tryz.strings_FieldsFunc_runes (g : Nat) (lb : Array Value) (eg : ∀ args w, (callFunc g args).run Tryz.prog w = .ok (.enter g args) w) (p : Nat → Bool) (s : ByteArray) (w : World) (hs : s.size ≤ 4294967296) (hp : PredAtRunes Tryz.prog g lb p w) :
    Calls Tryz.prog 186 #[.string s, .func (.func g) #[] lb] w fun e w' => ∃ A, e = .returned (.slice (some ⟨A, 0, none⟩) (Lib.goFieldsP p s).length (Lib.goFieldsP p s).length) ∧ w.heap.size ≤ A ∧
      w'.ownsRow w.heap.size 9 1 (.slice (some ⟨A, 0, none⟩) (Lib.goFieldsP p s).length (Lib.goFieldsP p s).length) (Lib.goFieldsP p s).length ((Lib.goFieldsP p s).map Value.string) ∧ Below w.heap.size w w' := Any.strings_FieldsFunc_runes Tryz.lays229 g lb eg p s w hs hp (by kernel_rfl) (by kernel_rfl)
open Go.RowKit Go.Lib in
theorem Tryz.strings_FieldsFunc_grows (g : Nat) (lb : Array Value) (eg : ∀ args w, (callFunc g args).run Tryz.prog w = .ok (.enter g args) w) (p : Nat → Bool) (s : ByteArray) (w : World) (hs : s.size ≤ 4294967296) (hp : PredGrows Tryz.prog g lb p w) :
    Calls Tryz.prog 186 #[.string s, .func (.func g) #[] lb] w fun e w' => ∃ A, e = .returned (.slice (some ⟨A, 0, none⟩) (Lib.goFieldsP p s).length (Lib.goFieldsP p s).length) ∧ w.heap.size ≤ A ∧
      w'.ownsRow w.heap.size 9 1 (.slice (some ⟨A, 0, none⟩) (Lib.goFieldsP p s).length (Lib.goFieldsP p s).length) (Lib.goFieldsP p s).length ((Lib.goFieldsP p s).map Value.string) ∧ Below w.heap.size w w' := Any.strings_FieldsFunc_grows Tryz.lays229 g lb eg p s w hs hp (by kernel_rfl) (by kernel_rfl)
def Tryz.lays110_ren : Go.Shelf.Ren := ⟨fun | 110 => 121 | 109 => 188 | n => n, fun | 31 => 23 | 9 => 9 | 4 => 4 | 3 => 3 | 0 => 0 | n => n, fun | n => n⟩
theorem Tryz.lays110 : Go.Proofs.Lays.n110 Tryz.prog Tryz.lays110_ren := {
  mixed := by kernel_rfl
  f109 := Tryz.func188.trans (congrArg some (by kernel_rfl))
  f110 := Tryz.func121.trans (congrArg some (by kernel_rfl))
  t0 := Tryz.underlying0
  a0 := Tryz.isAgg0
  z0 := Tryz.sizeOf0
  v0 := Tryz.zeroValue0
  t3 := Tryz.underlying3
  a3 := Tryz.isAgg3
  z3 := Tryz.sizeOf3
  v3 := Tryz.zeroValue3
  t4 := Tryz.underlying4
  a4 := Tryz.isAgg4
  z4 := Tryz.sizeOf4
  v4 := Tryz.zeroValue4
  t9 := Tryz.underlying9
  a9 := Tryz.isAgg9
  z9 := Tryz.sizeOf9
  v9 := Tryz.zeroValue9
  t31 := Tryz.underlying23
  a31 := Tryz.isAgg23
  z31 := Tryz.sizeOf23
  v31 := Tryz.zeroValue23 }
open Go.Lib in
theorem Tryz.slices_Contains_string (b off n c : Nat) (zs : List ByteArray) (x : ByteArray) (w : World) (hz : n ≤ zs.length) (hbig : n ≤ 9223372036854775807) (hc : ∀ j, j < zs.length → w.cell? ⟨b, off + j, none⟩ = some (.string (zs.getD j ByteArray.empty))) :
    Calls Tryz.prog 121 #[.slice (some ⟨b, off, none⟩) n c, .string x] w fun e w' => e = .returned (.bool (Lib.containsS (zs.take n) x)) ∧ w' = w := Any.slices_Contains_string Tryz.lays110 b off n c zs x w hz hbig hc
open Go.Lib in
theorem Tryz.slices_Contains_string_empty (a : Option Addr) (c : Nat) (x : ByteArray) (w : World) :
    Calls Tryz.prog 121 #[.slice a 0 c, .string x] w fun e w' => e = .returned (.bool false) ∧ w' = w := Any.slices_Contains_string_empty Tryz.lays110 a c x w
end Go.Proofs
/- inline.text, and what a run's signs are as a text. -/
namespace Go.Proofs.YtjocbifjmchbcaaGreatDoor
open Go.RowKit

set_option maxHeartbeats 400000 in
theorem text_any (s : List UInt8) (w : World) :
    Calls Tryz.prog 42 #[.string (mkB s)] w fun e w' => e = .returned (.agg #[.int .i64 14, .string (mkB s), .string (mkB []), .int .i64 0, .int .i64 0, .bool false, .slice none 0 0]) ∧ Bl w w' := by
  go_enter Tryz.func42, Tryz.ntmps42
  go_wp2
  exact bodyPost_ret (v := .agg #[.int .i64 14, .string (mkB s), .string (mkB []), .int .i64 0, .int .i64 0, .bool false, .slice none 0 0]) (by simp [results, Tryz.results42, go_sem, mkB_nil]) rfl ⟨rfl, (Bl.refl w).alloc _⟩
theorem repeat_one (c : UInt8) : ∀ n, Lib.repeatL [c] n = List.replicate n c
  | 0 => rfl
  | n + 1 => by rw [Lib.repeatL, repeat_one c n]; rfl
theorem encode_ascii (c : UInt8) (h : c.toNat < 128) : Utf8.encode (c.toNat : Int) = mkB [c] := by
  unfold Utf8.encode
  have h1 : Utf8.valid (c.toNat : Int) = true := by unfold Utf8.valid; simp; omega
  rw [h1]
  simp only [if_true, Int.toNat_natCast]
  rw [if_pos h]
  simp [mkB]
theorem repeatS_any (c : UInt8) (n : Nat) (w : World) (hn : n ≤ 1000000) :
    Calls Tryz.prog 85 #[.string (mkB [c]), .int .i64 (n : Int)] w fun e w' => e = .returned (.string (mkB (List.replicate n c))) ∧ Bl w w' := by
  have hs : (mkB [c]).size = 1 := rfl
  refine (Tryz.strings_Repeat (mkB [c]) n w (by omega) (by rw [hs]; omega)).mono ?_
  rintro e w' ⟨rfl, hb⟩
  refine ⟨?_, ⟨hb⟩⟩
  rw [mkB_data, repeat_one]; rfl

end Go.Proofs.YtjocbifjmchbcaaGreatDoor
/- slices.Backward as an iterator. -/
namespace Go.Proofs.YtjocbifjmchbcaaGreatDoor
open Go.RowKit Go.Shelf

attribute [local go_sem] Oper.semAt_some

/-- What has come when k rounds are over. -/
def upto {α : Type} (f : Nat → α) (k : Nat) : List α := (List.range k).map f
theorem upto_succ {α : Type} (f : Nat → α) (k : Nat) : upto f (k + 1) = upto f k ++ [f k] := by simp [upto, List.range_succ]
theorem upto_length {α : Type} (f : Nat → α) (k : Nat) : (upto f k).length = k := by simp [upto]
/-- Round k of a list that is gone over from its end. -/
def backF {β : Type} [Inhabited β] (zs : List β) (k : Nat) : Int × β := (((zs.length - 1 - k : Nat) : Int), zs[zs.length - 1 - k]?.getD default)
/-- Two blocks lie as they lay. -/
structure Kp2 (B1 B2 : Nat) (W W' : World) : Prop where
  b1 : W'.heap[B1]? = W.heap[B1]?
  b2 : W'.heap[B2]? = W.heap[B2]?
theorem Kp2.trans {B1 B2 : Nat} {A B C : World} (h : Kp2 B1 B2 A B) (k : Kp2 B1 B2 B C) : Kp2 B1 B2 A C := ⟨k.b1.trans h.b1, k.b2.trans h.b2⟩

set_option maxRecDepth 100000 in
set_option maxHeartbeats 2000000 in
theorem back1_int {β : Type} [Inhabited β] (enc : β → Value) (F : Fence) (n : Nat) (hF : F.fn 139) (hro : F.round = none) (hn : 1 ≤ n) (l Bs b off cap : Nat) (zs : List β) (hreach : zs.length ≤ 1000000) (J Jx : List (Int × β) → World → Prop)
    (hY : ∀ pre x W, J pre W → pre.length < zs.length → YieldAt F (n - 1) Tryz.prog l #[.int .i64 x.1, enc x.2] W fun e W' =>
      (e = .returned (.bool true) ∧ J (pre ++ [x]) W' ∧ Kp2 Bs b W W') ∨ (e = .returned (.bool false) ∧ Jx (pre ++ [x]) W'))
    (W : World) (hBs : W.heap[Bs]? = some (.cells #[.slice (some ⟨b, off, none⟩) zs.length cap] 84 (0, 0))) (hc : ∀ j u, zs[j]? = some u → W.cell? ⟨b, off + j, none⟩ = some (enc u)) (h0 : J [] W) :
    CallsIn F n Tryz.prog 139 #[.func (.yield l) #[] #[], .pointer (some ⟨Bs, 0, none⟩)] W fun e W' => (∃ v, e = .returned v) ∧
      ((∃ ys, ys = upto (backF zs) zs.length ∧ J ys W') ∨ (∃ pre, (∃ k, k ≤ zs.length ∧ pre = upto (backF zs) k) ∧ Jx pre W')) := by
  refine callsIn_of_wp Tryz.func139 rfl hF ?_ hro
  simp only [Tryz.ntmps139, List.size_toArray, List.length_cons, List.length_nil, Nat.reduceAdd, Nat.reduceSub, Array.replicate_succ, Array.replicate_zero, List.push_toArray, List.append_toArray, List.nil_append, List.cons_append]
  obtain ⟨len, hlen⟩ : ∃ len, zs.length = len := ⟨_, rfl⟩
  rw [hlen] at hreach hY hBs ⊢
  have hlenH := Lib.hid hlen
  clear hlen
  have cB : W.cell? ⟨Bs, 0, none⟩ = some (.slice (some ⟨b, off, none⟩) len cap) := by rw [Lib.cell_of_heap hBs]; rfl
  gi_wp2
  gi_loopw [3] (fun i wr => ∃ k : Nat, k ≤ len ∧ i = .int .i64 ((len : Int) - 1 - k) ∧ J (upto (backF zs) k) wr ∧ Kp2 Bs b W wr)
    (fun i _ => (intOf i + 1).toNat)
  case atStart => exact ⟨0, Nat.zero_le _, by simp, h0, ⟨rfl, rfl⟩⟩
  case round =>
    obtain ⟨k, hk, rfl, hJs, hnx⟩ := hrel
    have cBr : wr.cell? ⟨Bs, 0, none⟩ = some (.slice (some ⟨b, off, none⟩) len cap) := (World.cell?_of_block hnx.b1).trans cB
    by_cases hlt : k < len
    · obtain ⟨u, hu⟩ : ∃ u, zs[len - 1 - k]? = some u := ⟨_, List.getElem?_eq_getElem (by rw [hlenH.out]; omega)⟩
      have hcx : wr.cell? ⟨b, off + (len - 1 - k), none⟩ = some (enc u) := (World.cell?_of_block (a := ⟨b, off + (len - 1 - k), none⟩) hnx.b2).trans (hc _ _ hu)
      have hf : backF zs k = (((len - 1 - k : Nat) : Int), u) := by unfold backF; rw [hlenH.out, hu]; rfl
      obtain ⟨fn, tmps, assign, body, hy, hR⟩ := hY _ (((len - 1 - k : Nat) : Int), u) wr hJs (by rw [upto_length]; exact hlt)
      dsimp only at hy
      obtain ⟨v, hv⟩ : ∃ v, enc u = v := ⟨_, rfl⟩
      rw [hv] at hcx hy
      clear hv
      obtain ⟨m, hm⟩ : ∃ m, len - 1 - k = m := ⟨_, rfl⟩
      have hi : (len : Int) - 1 - k = (m : Int) := by omega
      rw [hm] at hcx hf hy hR
      rw [hi]
      have hml : (m : Int) < (len : Int) := by omega
      have hm0 : (0 : Int) ≤ (m : Int) := by omega
      have HM := Lib.hid (And.intro hm hi)
      have HF := Lib.hid hf
      clear hm hi hf hu
      gi_wp2
      refine hR.mono ?_
      rintro e W3 (⟨rfl, hJ3, hk3⟩ | ⟨rfl, hJx3⟩)
      · gi_wp2
        go_roundw
        case rel => exact ⟨k + 1, by omega, by have := HM.out.2; go_num, by rw [upto_succ, HF.out]; exact hJ3, hnx.trans hk3⟩
        case measure => (simp [intOf])
      · gi_wp2
        refine bodyPost_ret (results_none rfl _ _ _) rfl ?_
        exact ⟨⟨_, rfl⟩, .inr ⟨_, ⟨k + 1, by omega, by rw [upto_succ, HF.out]⟩, hJx3⟩⟩
    · obtain rfl : k = len := by omega
      gi_wp2
      go_end0
      exact ⟨⟨_, rfl⟩, .inl ⟨_, rfl, hJs⟩⟩

set_option maxRecDepth 100000 in
set_option maxHeartbeats 1000000 in
theorem back1_nil_int {β : Type} (F : Fence) (n : Nat) (hF : F.fn 139) (hro : F.round = none) (l Bs : Nat) (J : List (Int × β) → World → Prop) (W : World) (hBs : W.heap[Bs]? = some (.cells #[.slice none 0 0] 84 (0, 0))) (h0 : J [] W) :
    CallsIn F n Tryz.prog 139 #[.func (.yield l) #[] #[], .pointer (some ⟨Bs, 0, none⟩)] W fun e W' => (∃ v, e = .returned v) ∧ J [] W' := by
  refine callsIn_of_wp Tryz.func139 rfl hF ?_ hro
  simp only [Tryz.ntmps139, List.size_toArray, List.length_cons, List.length_nil, Nat.reduceAdd, Nat.reduceSub, Array.replicate_succ, Array.replicate_zero, List.push_toArray, List.append_toArray, List.nil_append, List.cons_append]
  have cB : W.cell? ⟨Bs, 0, none⟩ = some (.slice none 0 0) := by rw [Lib.cell_of_heap hBs]; rfl
  gi_wp2
  gi_loopw [3] (fun i wr => i = .int .i64 (-1) ∧ J [] wr) (fun _ _ => 0)
  case atStart => exact ⟨rfl, h0⟩
  case round =>
    obtain ⟨rfl, hJs⟩ := hrel
    gi_wp2
    go_end0
    exact ⟨⟨_, rfl⟩, hJs⟩
/-- A slice of one-cell values, in block b. -/
theorem back_stops_int {β : Type} [Inhabited β] (enc : β → Value) (F : Fence) (n : Nat) (hF : F.fn 139) (hro : F.round = none) (hn : 1 ≤ n) (Bs b : Nat) (sv : Value) (zs : List β) (hreach : zs.length ≤ 1000000) (w : World) (hBs : w.heap[Bs]? = some (.cells #[sv] 84 (0, 0)))
    (hs : (sv = .slice none 0 0 ∧ zs = []) ∨ ∃ off cap, sv = .slice (some ⟨b, off, none⟩) zs.length cap ∧ b < w.heap.size ∧ ∀ j u, zs[j]? = some u → w.cell? ⟨b, off + j, none⟩ = some (enc u)) :
    SeqStopsK F n Tryz.prog 139 #[.pointer (some ⟨Bs, 0, none⟩)] (fun x : Int × β => #[.int .i64 x.1, enc x.2]) (Kp2 Bs b) (fun ys => ys = upto (backF zs) zs.length) (fun pre => ∃ k, k ≤ zs.length ∧ pre = upto (backF zs) k) zs.length w := fun l J Jx W hW _ _ hY h0 => by
  have hBs' : W.heap[Bs]? = some (.cells #[sv] 84 (0, 0)) := (hW.block Bs (Array.getElem?_eq_some_iff.1 hBs).1).trans hBs
  rcases hs with ⟨rfl, rfl⟩ | ⟨off, cap, rfl, hb, hc⟩
  · exact (back1_nil_int F n hF hro l Bs J W hBs' h0).mono fun e W' ⟨he, hj⟩ => ⟨he, .inl ⟨_, rfl, hj⟩⟩
  · exact back1_int enc F n hF hro hn l Bs b off cap zs hreach J Jx hY W hBs' (fun j u hj => (hW.cell (p := ⟨b, off + j, none⟩) hb).trans (hc j u hj)) h0
set_option maxHeartbeats 1000000 in
theorem back_int (F : Fence) (n : Nat) (hF : F.fn 86) (hro : F.round = none) (a : Option Addr) (len cap : Nat) (w : World) :
    CallsIn F n Tryz.prog 86 #[.slice a len cap] w fun e w' => e = .returned (.func (.func 139) #[] #[.pointer (some ⟨w.heap.size, 0, none⟩)]) ∧ w' = w.alloc (.cells #[.slice a len cap] 84) := by
  refine callsIn_of_wp Tryz.func86 rfl hF ?_ hro
  simp only [Tryz.ntmps86, List.size_toArray, List.length_cons, List.length_nil, Nat.reduceAdd, Nat.reduceSub, Array.replicate_succ, Array.replicate_zero, List.push_toArray, List.append_toArray, List.nil_append, List.cons_append]
  gi_wp2
  go_ret
  exact ⟨rfl, rfl⟩

set_option maxRecDepth 100000 in
set_option maxHeartbeats 2000000 in
theorem back1_piece {β : Type} [Inhabited β] (enc : β → Value) (F : Fence) (n : Nat) (hF : F.fn 182) (hro : F.round = none) (hn : 1 ≤ n) (l Bs b off cap : Nat) (zs : List β) (hreach : zs.length ≤ 1000000) (J Jx : List (Int × β) → World → Prop)
    (hY : ∀ pre x W, J pre W → pre.length < zs.length → YieldAt F (n - 1) Tryz.prog l #[.int .i64 x.1, enc x.2] W fun e W' =>
      (e = .returned (.bool true) ∧ J (pre ++ [x]) W' ∧ Kp2 Bs b W W') ∨ (e = .returned (.bool false) ∧ Jx (pre ++ [x]) W'))
    (W : World) (hBs : W.heap[Bs]? = some (.cells #[.slice (some ⟨b, off, none⟩) zs.length cap] 44 (0, 0))) (hc : ∀ j u, zs[j]? = some u → W.cell? ⟨b, off + j, none⟩ = some (enc u)) (h0 : J [] W) :
    CallsIn F n Tryz.prog 182 #[.func (.yield l) #[] #[], .pointer (some ⟨Bs, 0, none⟩)] W fun e W' => (∃ v, e = .returned v) ∧
      ((∃ ys, ys = upto (backF zs) zs.length ∧ J ys W') ∨ (∃ pre, (∃ k, k ≤ zs.length ∧ pre = upto (backF zs) k) ∧ Jx pre W')) := by
  refine callsIn_of_wp Tryz.func182 rfl hF ?_ hro
  simp only [Tryz.ntmps182, List.size_toArray, List.length_cons, List.length_nil, Nat.reduceAdd, Nat.reduceSub, Array.replicate_succ, Array.replicate_zero, List.push_toArray, List.append_toArray, List.nil_append, List.cons_append]
  obtain ⟨len, hlen⟩ : ∃ len, zs.length = len := ⟨_, rfl⟩
  rw [hlen] at hreach hY hBs ⊢
  have hlenH := Lib.hid hlen
  clear hlen
  have cB : W.cell? ⟨Bs, 0, none⟩ = some (.slice (some ⟨b, off, none⟩) len cap) := by rw [Lib.cell_of_heap hBs]; rfl
  gi_wp2
  gi_loopw [3] (fun i wr => ∃ k : Nat, k ≤ len ∧ i = .int .i64 ((len : Int) - 1 - k) ∧ J (upto (backF zs) k) wr ∧ Kp2 Bs b W wr)
    (fun i _ => (intOf i + 1).toNat)
  case atStart => exact ⟨0, Nat.zero_le _, by simp, h0, ⟨rfl, rfl⟩⟩
  case round =>
    obtain ⟨k, hk, rfl, hJs, hnx⟩ := hrel
    have cBr : wr.cell? ⟨Bs, 0, none⟩ = some (.slice (some ⟨b, off, none⟩) len cap) := (World.cell?_of_block hnx.b1).trans cB
    by_cases hlt : k < len
    · obtain ⟨u, hu⟩ : ∃ u, zs[len - 1 - k]? = some u := ⟨_, List.getElem?_eq_getElem (by rw [hlenH.out]; omega)⟩
      have hcx : wr.cell? ⟨b, off + (len - 1 - k), none⟩ = some (enc u) := (World.cell?_of_block (a := ⟨b, off + (len - 1 - k), none⟩) hnx.b2).trans (hc _ _ hu)
      have hf : backF zs k = (((len - 1 - k : Nat) : Int), u) := by unfold backF; rw [hlenH.out, hu]; rfl
      obtain ⟨fn, tmps, assign, body, hy, hR⟩ := hY _ (((len - 1 - k : Nat) : Int), u) wr hJs (by rw [upto_length]; exact hlt)
      dsimp only at hy
      obtain ⟨v, hv⟩ : ∃ v, enc u = v := ⟨_, rfl⟩
      rw [hv] at hcx hy
      clear hv
      obtain ⟨m, hm⟩ : ∃ m, len - 1 - k = m := ⟨_, rfl⟩
      have hi : (len : Int) - 1 - k = (m : Int) := by omega
      rw [hm] at hcx hf hy hR
      rw [hi]
      have hml : (m : Int) < (len : Int) := by omega
      have hm0 : (0 : Int) ≤ (m : Int) := by omega
      have HM := Lib.hid (And.intro hm hi)
      have HF := Lib.hid hf
      clear hm hi hf hu
      gi_wp2
      refine hR.mono ?_
      rintro e W3 (⟨rfl, hJ3, hk3⟩ | ⟨rfl, hJx3⟩)
      · gi_wp2
        go_roundw
        case rel => exact ⟨k + 1, by omega, by have := HM.out.2; go_num, by rw [upto_succ, HF.out]; exact hJ3, hnx.trans hk3⟩
        case measure => (simp [intOf])
      · gi_wp2
        refine bodyPost_ret (results_none rfl _ _ _) rfl ?_
        exact ⟨⟨_, rfl⟩, .inr ⟨_, ⟨k + 1, by omega, by rw [upto_succ, HF.out]⟩, hJx3⟩⟩
    · obtain rfl : k = len := by omega
      gi_wp2
      go_end0
      exact ⟨⟨_, rfl⟩, .inl ⟨_, rfl, hJs⟩⟩

set_option maxRecDepth 100000 in
set_option maxHeartbeats 1000000 in
theorem back1_nil_piece {β : Type} (F : Fence) (n : Nat) (hF : F.fn 182) (hro : F.round = none) (l Bs : Nat) (J : List (Int × β) → World → Prop) (W : World) (hBs : W.heap[Bs]? = some (.cells #[.slice none 0 0] 44 (0, 0))) (h0 : J [] W) :
    CallsIn F n Tryz.prog 182 #[.func (.yield l) #[] #[], .pointer (some ⟨Bs, 0, none⟩)] W fun e W' => (∃ v, e = .returned v) ∧ J [] W' := by
  refine callsIn_of_wp Tryz.func182 rfl hF ?_ hro
  simp only [Tryz.ntmps182, List.size_toArray, List.length_cons, List.length_nil, Nat.reduceAdd, Nat.reduceSub, Array.replicate_succ, Array.replicate_zero, List.push_toArray, List.append_toArray, List.nil_append, List.cons_append]
  have cB : W.cell? ⟨Bs, 0, none⟩ = some (.slice none 0 0) := by rw [Lib.cell_of_heap hBs]; rfl
  gi_wp2
  gi_loopw [3] (fun i wr => i = .int .i64 (-1) ∧ J [] wr) (fun _ _ => 0)
  case atStart => exact ⟨rfl, h0⟩
  case round =>
    obtain ⟨rfl, hJs⟩ := hrel
    gi_wp2
    go_end0
    exact ⟨⟨_, rfl⟩, hJs⟩
/-- A slice of one-cell values, in block b. -/
theorem back_stops_piece {β : Type} [Inhabited β] (enc : β → Value) (F : Fence) (n : Nat) (hF : F.fn 182) (hro : F.round = none) (hn : 1 ≤ n) (Bs b : Nat) (sv : Value) (zs : List β) (hreach : zs.length ≤ 1000000) (w : World) (hBs : w.heap[Bs]? = some (.cells #[sv] 44 (0, 0)))
    (hs : (sv = .slice none 0 0 ∧ zs = []) ∨ ∃ off cap, sv = .slice (some ⟨b, off, none⟩) zs.length cap ∧ b < w.heap.size ∧ ∀ j u, zs[j]? = some u → w.cell? ⟨b, off + j, none⟩ = some (enc u)) :
    SeqStopsK F n Tryz.prog 182 #[.pointer (some ⟨Bs, 0, none⟩)] (fun x : Int × β => #[.int .i64 x.1, enc x.2]) (Kp2 Bs b) (fun ys => ys = upto (backF zs) zs.length) (fun pre => ∃ k, k ≤ zs.length ∧ pre = upto (backF zs) k) zs.length w := fun l J Jx W hW _ _ hY h0 => by
  have hBs' : W.heap[Bs]? = some (.cells #[sv] 44 (0, 0)) := (hW.block Bs (Array.getElem?_eq_some_iff.1 hBs).1).trans hBs
  rcases hs with ⟨rfl, rfl⟩ | ⟨off, cap, rfl, hb, hc⟩
  · exact (back1_nil_piece F n hF hro l Bs J W hBs' h0).mono fun e W' ⟨he, hj⟩ => ⟨he, .inl ⟨_, rfl, hj⟩⟩
  · exact back1_piece enc F n hF hro hn l Bs b off cap zs hreach J Jx hY W hBs' (fun j u hj => (hW.cell (p := ⟨b, off + j, none⟩) hb).trans (hc j u hj)) h0
set_option maxHeartbeats 1000000 in
theorem back_piece (F : Fence) (n : Nat) (hF : F.fn 118) (hro : F.round = none) (a : Option Addr) (len cap : Nat) (w : World) :
    CallsIn F n Tryz.prog 118 #[.slice a len cap] w fun e w' => e = .returned (.func (.func 182) #[] #[.pointer (some ⟨w.heap.size, 0, none⟩)]) ∧ w' = w.alloc (.cells #[.slice a len cap] 44) := by
  refine callsIn_of_wp Tryz.func118 rfl hF ?_ hro
  simp only [Tryz.ntmps118, List.size_toArray, List.length_cons, List.length_nil, Nat.reduceAdd, Nat.reduceSub, Array.replicate_succ, Array.replicate_zero, List.push_toArray, List.append_toArray, List.nil_append, List.cons_append]
  gi_wp2
  go_ret
  exact ⟨rfl, rfl⟩

end Go.Proofs.YtjocbifjmchbcaaGreatDoor
/- The builder's run. -/
namespace Go.Proofs.YtjocbifjmchbcaaGreatDoor
open Go.RowKit Go.Shelf

attribute [local go_sem] Oper.semAt_some

/-- How much is laid into open nodes. -/
def bsSz (b : Bs) : Nat := (b.map fun x => x.2.len + 1).sum
theorem ends_last : ∀ (n : Nat) (b : Bs), Bs.ends (n + 1) b = (Bs.ends n b).endL
  | 0, _ => rfl
  | n + 1, b => by rw [Bs.ends, ends_last n b.endL]; rfl
theorem bsSz_len : ∀ b : Bs, b.length ≤ bsSz b
  | [] => Nat.le_refl _
  | x :: r => by have := bsSz_len r; simp [bsSz] at this ⊢; omega
theorem bsSz_end (b : Bs) : bsSz b.endL ≤ bsSz b := by
  match b with
  | [] => exact Nat.le_refl _
  | [(k, f)] => simp [Bs.endL, Bs.add, bsSz]
  | (k, f) :: (k0, f0) :: r => simp [Bs.endL, Bs.add, bsSz, Fo.len_snoc]; omega
theorem bsSz_ends : ∀ (n : Nat) (b : Bs), bsSz (Bs.ends n b) ≤ bsSz b
  | 0, _ => Nat.le_refl _
  | n + 1, b => Nat.le_trans (bsSz_ends n b.endL) (bsSz_end b)
theorem bsSz_add (b : Bs) (k : Nat) (s t : List UInt8) (l : Fo) : bsSz (b.add k s t l) ≤ bsSz b + 1 := by
  match b with
  | [] => simp [Bs.add, bsSz]
  | (k0, f0) :: r => simp [Bs.add, bsSz, Fo.len_snoc]; omega
theorem bsOf_length (st : Os) : (bsOf st).length = st.length := by simp [bsOf]
/-- A block that is neither nodes nor a builder, as it lies later. -/
theorem Oth2.kept {w w' : World} (h : Oth2 w w') {i : Nat} {cs : Array Value} {t : TypeId} {fz : Nat × Nat} (hi : w.heap[i]? = some (.cells cs t fz)) (h1 : t ≠ 27) (h2 : t ≠ 75) : w'.heap[i]? = some (.cells cs t fz) :=
  h.same i _ hi (fun cs' fz' e => by cases e; exact h1 rfl) (fun cs' fz' e => by cases e; exact h2 rfl)

/-- A turn of what is no cells leaves the builder as it is. -/
theorem BdS.other {w0 w w' : World} {b g : Nat} {st : Os} {row : Option Nat} (h : BdS w0 w b g st) (k : w.grownBy w' row) (hr : ∀ x, row = some x → w0.heap.size ≤ x ∧ ∃ o : Obj, w.heap[x]? = some o ∧ o.isCells = false) : BdS w0 w' b g st := by
  obtain ⟨cap, xs, h1, h2, h3⟩ := h.ex
  have same : ∀ (x : Nat) (cs : Array Value) (t : TypeId) (fz : Nat × Nat), w.heap[x]? = some (.cells cs t fz) → w'.heap[x]? = w.heap[x]? := fun x cs t fz hx => k.block x (heap_lt hx) (fun e => by
    obtain ⟨_, o, ho, hc⟩ := hr x e.symm
    rw [hx] at ho
    cases ho
    cases hc)
  obtain ⟨cur, hcur⟩ := row_block h2
  have F : Fr (g :: blks st) w w' := ⟨k.size, fun x cs fz hx _ => by rw [same x _ _ _ hx]; exact hx⟩
  refine ⟨⟨cap, xs, by rw [same b _ _ _ h1]; exact h1, ownsRow_same h2 (fun x hx => by cases hx; exact same g _ _ _ hcur), h3.more F (fun x hx => .inl hx) (fun x hx => ?_)⟩, h.nd, h.bl.grown k (fun x hx => (hr x hx).1), h.ge⟩
  have : ∀ (st' : Os) (xs' : List Value), OpenX w w0.heap.size (g :: blks st) st' xs' → ∀ y ∈ st', y.2.2.ownBlock = some x → ∃ cur, w.heap[x]? = some (.cells cur 27 (0, 0)) := by
    intro st'
    induction st' with
    | nil => intro _ _ y hy; cases hy
    | cons a r ih =>
      intro xs' h y hy hk
      obtain ⟨ys, zs, _, h2, _, h4⟩ := h
      rcases List.mem_cons.1 hy with rfl | hy
      · rcases h2.2 with ⟨h', _⟩ | ⟨g', cap', cur, h', _, hh, _⟩
        · rw [h'] at hk; cases hk
        · rw [h'] at hk; cases hk; exact ⟨cur, hh⟩
      · exact ih _ h4 y hy hk
  obtain ⟨y, hy, hk⟩ := mem_blks.1 hx
  obtain ⟨cur', hc'⟩ := this st xs h3 y hy hk
  exact same x _ _ _ hc'
theorem Oth2.other {w w1 w2 : World} {row : Option Nat} (h : Oth2 w w1) (k : w1.grownBy w2 row) (hr : ∀ x, row = some x → w.heap.size ≤ x) : Oth2 w w2 :=
  ⟨Nat.le_trans h.size k.size, fun i o h0 h1 h2 => by
    rw [k.block i (Nat.lt_of_lt_of_le (heap_lt h0) h.size) (fun e => by have := hr i e.symm; have := heap_lt h0; omega)]
    exact h.same i o h0 h1 h2⟩
theorem Oth2.others {w w' : World} (h : Oth2 w w') : KeepsOthers w w' := ⟨h.size, fun i o h0 hn => h.same i o h0 (fun _ _ e => by subst e; cases hn) (fun _ _ e => by subst e; cases hn)⟩
/-- What a loop over what a run opens has begun. -/
def begun (pre : List (Int × Nat)) (b : Bs) : Bs := pre.foldl (fun b x => (x.2, Fo.nil) :: b) b
theorem begun_length : ∀ (pre : List (Int × Nat)) (b : Bs), (begun pre b).length = pre.length + b.length
  | [], b => by simp [begun]
  | x :: t, b => by
    have := begun_length t ((x.2, .nil) :: b)
    unfold begun at this ⊢
    rw [List.foldl_cons, this]; simp; omega
theorem begun_map : ∀ (pre : List (Int × Nat)) (b : Bs), begun pre b = (pre.map (·.2)).foldl (fun b k => (k, Fo.nil) :: b) b
  | [], _ => rfl
  | x :: t, b => begun_map t ((x.2, .nil) :: b)
theorem back_all (zs : List Nat) : (upto (backF zs) zs.length).map (·.2) = zs.reverse := by
  apply List.ext_getElem
  · simp [upto]
  · intro i h1 h2
    have hi : i < zs.length := by simpa [upto] using h1
    simp [upto, backF]
    rw [List.getElem?_eq_getElem (by omega)]; rfl
/-- What holds between two rounds. -/
structure RunI (w0 w8 : World) (b : Nat) (bs : Bs) (pre : List (Int × Nat)) (W : World) : Prop where
  ex : ∃ g st, BdS w0 W b g st ∧ bsOf st = begun pre bs
  oth : Oth2 w8 W

set_option maxRecDepth 100000 in
set_option maxHeartbeats 4000000 in
theorem brun_any (w0 w : World) (b g : Nat) (st : Os) (hB : BdS w0 w b g st) (r : Rn) (u : Us) (sv : Value) (ob : Nat) (hst : u.closes + 1 ≤ st.length) (hsz : bsSz (bsOf st) + u.opens.length + 2 ≤ 1000000) (hrn : r.n ≤ 100000) (hl0 : 0 ≤ u.left) (hl1 : u.left ≤ r.n) (hc : r.c.toNat < 128) (hcl : u.closes ≤ 100000)
    (hs : (sv = .slice none 0 0 ∧ u.opens = []) ∨ ∃ off cap, sv = .slice (some ⟨ob, off, none⟩) u.opens.length cap ∧ ob < w0.heap.size ∧ ∀ (j k : Nat), u.opens[j]? = some k → w0.cell? ⟨ob, off + j, none⟩ = some (.int .i64 (k : Int))) :
    Calls Tryz.prog 43 #[.pointer (some ⟨b, 0, none⟩), .agg #[.int .u8 (r.c.toNat : Int), .int .i64 (r.n : Int), .bool r.o, .bool r.cl], .agg #[.int .i64 (u.closes : Int), sv, .int .i64 u.left]] w fun e w' => e = .returned (.tuple #[]) ∧ ∃ g' st', bsOf st' = Bs.runL (bsOf st) r u ∧ BdS w0 w' b g' st' ∧ Oth2 w w' := by
  refine (callsIn_wide (n := 5)).1 ?_
  refine callsIn_of_wp_marks Tryz.func43 rfl trivial ?_ rfl
  simp only [Tryz.ntmps43, List.size_toArray, List.length_cons, List.length_nil, Nat.reduceAdd, Nat.reduceSub, Array.replicate_succ, Array.replicate_zero, List.push_toArray, List.append_toArray, List.nil_append, List.cons_append]
  refine wpIn_wide.2 ?_
  obtain ⟨lf, hlf⟩ : ∃ lf : Nat, u.left = (lf : Int) := ⟨u.left.toNat, by omega⟩
  rw [hlf] at hl0 hl1 ⊢
  have HLF := Lib.hid hlf
  clear hlf
  obtain ⟨so, sl, sc, rfl⟩ : ∃ so sl sc, sv = .slice so sl sc := by
    rcases hs with ⟨rfl, _⟩ | ⟨off, cap, rfl, _⟩
    · exact ⟨_, _, _, rfl⟩
    · exact ⟨_, _, _, rfl⟩
  go_wp2_with fail
  obtain ⟨w1, hw1⟩ : ∃ w1, ((w.alloc (.cells #[.pointer (some ⟨b, 0, none⟩)] 73)).alloc (.cells #[.int .u8 (r.c.toNat : Int), .int .i64 (r.n : Int), .bool r.o, .bool r.cl] 67)).alloc (.cells #[.int .i64 (u.closes : Int), .slice so sl sc, .int .i64 (lf : Int)] 86) = w1 := ⟨_, rfl⟩
  rw [hw1]
  have hbl : Bl w w1 := by rw [← hw1]; exact (((Bl.refl w).alloc _).alloc _).alloc _
  have hh3 : w1.heap[w.heap.size]? = some (.cells #[.pointer (some ⟨b, 0, none⟩)] 73 (0, 0)) := by
    rw [← hw1, (((Bl.refl _).alloc _).alloc _).block (by simp)]; exact heap_alloc_new w _
  have hh4 : w1.heap[w.heap.size + 1]? = some (.cells #[.int .u8 (r.c.toNat : Int), .int .i64 (r.n : Int), .bool r.o, .bool r.cl] 67 (0, 0)) := by
    rw [← hw1, ((Bl.refl _).alloc _).block (by simp)]; have := heap_alloc_new (w.alloc (.cells #[.pointer (some ⟨b, 0, none⟩)] 73)) (.cells #[.int .u8 (r.c.toNat : Int), .int .i64 (r.n : Int), .bool r.o, .bool r.cl] 67); rwa [World.size_alloc] at this
  have hh5 : w1.heap[w.heap.size + 1 + 1]? = some (.cells #[.int .i64 (u.closes : Int), .slice so sl sc, .int .i64 (lf : Int)] 86 (0, 0)) := by
    rw [← hw1]; have := heap_alloc_new ((w.alloc (.cells #[.pointer (some ⟨b, 0, none⟩)] 73)).alloc (.cells #[.int .u8 (r.c.toNat : Int), .int .i64 (r.n : Int), .bool r.o, .bool r.cl] 67)) (.cells #[.int .i64 (u.closes : Int), .slice so sl sc, .int .i64 (lf : Int)] 86); rwa [World.size_alloc, World.size_alloc] at this
  have hB1 := hB.more hbl
  clear hw1
  go_loopw [10] (fun i wr => ∃ (j : Nat) (g' : Nat) (st' : Os), j ≤ u.closes ∧ i = .int .i64 (j : Int) ∧ BdS w0 wr b g' st' ∧ st'.length + j = st.length ∧ Oth2 w1 wr ∧ Hid (bsOf st' = Bs.ends j (bsOf st))) (fun i _ => u.closes - (intOf i).toNat)
  case atStart => exact ⟨0, g, st, Nat.zero_le _, rfl, hB1, by simp, Oth2.refl _, Lib.hid rfl⟩
  case round =>
    obtain ⟨j, g', st', hj, rfl, hBr, hlen, hO, hrel⟩ := hrel
    have e3 := hO.kept hh3 (by decide) (by decide)
    have e4 := hO.kept hh4 (by decide) (by decide)
    have e5 := hO.kept hh5 (by decide) (by decide)
    have c3 : wr.cell? ⟨w.heap.size, 0, none⟩ = some (.pointer (some ⟨b, 0, none⟩)) := by rw [Lib.cell_of_heap e3]; rfl
    have c4 : wr.cell? ⟨w.heap.size + 1, 0, none⟩ = some (.int .u8 (r.c.toNat : Int)) := by rw [Lib.cell_of_heap e4]; rfl
    have c51 : wr.cell? ⟨w.heap.size + 1 + 1, 1, none⟩ = some (.slice so sl sc) := by rw [Lib.cell_of_heap e5]; rfl
    have c52 : wr.cell? ⟨w.heap.size + 1 + 1, 2, none⟩ = some (.int .i64 (lf : Int)) := by rw [Lib.cell_of_heap e5]; rfl
    have hszj := bsSz_ends j (bsOf st)
    rw [← hrel.out] at hszj
    have hln := bsSz_len (bsOf st')
    rw [bsOf_length] at hln
    by_cases hlt : j < u.closes
    · match st', hlen, hBr, hrel, hszj, hln with
      | [], hlen, _, _, _, _ => simp at hlen; omega
      | [_], hlen, _, _, _, _ => simp at hlen; omega
      | (k1, f1, v1) :: (k0, f0, v0) :: rr, hlen, hBr, hrel, hszj, hln =>
        have hz : f0.len + rr.length + 1 ≤ 1000000 := by
          have := bsSz_len (bsOf rr)
          rw [bsOf_length] at this
          simp [bsOf, bsSz] at hszj hsz this ⊢
          omega
        have hl2 : rr.length + 1 + 1 + j = st.length := by simpa using hlen
        have HR := Lib.hid (show bsOf ((k0, f0.snoc k1 [] [] f1, v0) :: rr) = Bs.ends (j + 1) (bsOf st) by rw [ends_last, ← hrel.out]; rfl)
        clear hrel
        go_wp2_with fail
        refine (bend_any w0 _ b g' k0 k1 f0 f1 v0 v1 rr hBr (by omega) (by omega)).mono ?_
        rintro e w3 ⟨rfl, ⟨v2, hB3⟩, hO3⟩
        go_wp2_with fail
        go_roundw
        case rel => exact ⟨j + 1, g', _, by omega, by go_num, hB3, by simp; omega, hO.trans hO3, HR⟩
        case measure => simp [intOf]; omega
    · obtain rfl : j = u.closes := by omega
      obtain ⟨x0, rr, rfl⟩ : ∃ x0 rr, st' = x0 :: rr := by
        cases st' with
        | nil => simp at hlen; omega
        | cons x0 rr => exact ⟨x0, rr, rfl⟩
      obtain ⟨k0, f0, v0⟩ := x0
      have hz : f0.len + rr.length + 1 ≤ 1000000 := by
        have := bsSz_len (bsOf rr)
        rw [bsOf_length] at this
        simp [bsOf, bsSz] at hszj hsz this ⊢
        omega
      have hE : Utf8.encode (IntKind.i32.wrap (r.c.toNat : Int)) = mkB [r.c] := by rw [← encode_ascii r.c hc]; congr 1; exact IntWalk.i32_in _ (by omega)
      go_wp2_with fail
      have hHeld : (fun w' : World => w'.cell? ⟨w.heap.size, 0, none⟩ = some (.pointer (some ⟨b, 0, none⟩)) ∧ w'.cell? ⟨w.heap.size + 1, 0, none⟩ = some (.int .u8 (r.c.toNat : Int)) ∧ w'.cell? ⟨w.heap.size + 1 + 1, 2, none⟩ = some (.int .i64 (lf : Int))) wr.drew := ⟨c3, c4, c52⟩
      refine wp_region_noPanic ?_
      refine wp_region_n (fun w' : World => w'.cell? ⟨w.heap.size, 0, none⟩ = some (.pointer (some ⟨b, 0, none⟩)) ∧ w'.cell? ⟨w.heap.size + 1, 0, none⟩ = some (.int .u8 (r.c.toNat : Int)) ∧ w'.cell? ⟨w.heap.size + 1 + 1, 2, none⟩ = some (.int .i64 (lf : Int))) [0, 1, 2, 3, 4, 5, 6] (by kernel_rfl) ?_
      refine wpAnyN_take (i := 0) (v := ?rv1) rfl (by kernel_rfl) (by kernel_rfl) (by kernel_rfl) (by kernel_rfl) (by kernel_rfl) (fun _ _ _ h => h) (Or.inl ⟨by rfl, ?rh1⟩) hHeld ?_
      case rh1 => (intro w hSw; (try dsimp only at hSw); go_simp; try with_reducible rfl)
      refine wpAnyN_take (i := 1) (v := ?rv2) rfl (by kernel_rfl) (by kernel_rfl) (by kernel_rfl) (by kernel_rfl) (by kernel_rfl) (fun _ _ _ h => h) (Or.inl ⟨by rfl, ?rh2⟩) hHeld ?_
      case rh2 => (intro w hSw; (try dsimp only at hSw); go_simp; try with_reducible rfl)
      refine wpAnyN_take (i := 2) (v := ?rv3) rfl (by kernel_rfl) (by kernel_rfl) (by kernel_rfl) (by kernel_rfl) (by kernel_rfl) (fun _ _ _ h => h) (Or.inl ⟨by rfl, ?rh3⟩) hHeld ?_
      case rh3 => (intro w hSw; (try dsimp only at hSw); go_simp; try with_reducible rfl)
      refine wpAnyN_take (i := 3) (v := ?rv4) rfl (by kernel_rfl) (by kernel_rfl) (by kernel_rfl) (by kernel_rfl) (by kernel_rfl) (fun _ _ _ h => h) (Or.inl ⟨by rfl, ?rh4⟩) hHeld ?_
      case rh4 => (intro w hSw; (try dsimp only at hSw); go_simp; try with_reducible rfl)
      refine wpAnyN_take (i := 4) (v := ?rv5) rfl (by kernel_rfl) (by kernel_rfl) (by kernel_rfl) (by kernel_rfl) (by kernel_rfl) (fun _ _ _ h => h) (Or.inl ⟨by rfl, ?rh5⟩) hHeld ?_
      case rh5 => (intro w hSw; (try dsimp only at hSw); go_simp; try with_reducible rfl)
      refine wpAnyN_take (i := 5) (v := ?rv6) rfl (by kernel_rfl) (by kernel_rfl) (by kernel_rfl) (by kernel_rfl) (by kernel_rfl) (fun _ _ _ h => h) (Or.inl ⟨by rfl, ?rh6⟩) hHeld ?_
      case rh6 => (intro w hSw; (try dsimp only at hSw); go_simp; try with_reducible rfl)
      refine wpAnyN_take (i := 6) (v := ?rv7) rfl (by kernel_rfl) (by kernel_rfl) (by kernel_rfl) (by kernel_rfl) (by kernel_rfl) (fun _ _ _ h => h) (Or.inl ⟨by rfl, ?rh7⟩) hHeld ?_
      case rh7 => (intro w hSw; (try dsimp only at hSw); go_simp; try with_reducible rfl)
      refine wpAnyN_ready (rs := [7]) (by kernel_rfl) (by simp) ?_
      refine AllN.cons rfl (fun K rK8 => ?_) ?_
      · go_simp
        refine (repeatS_any r.c lf _ (by omega)).mono ?_
        rintro e w5 ⟨rfl, hb5⟩
        dsimp only
        refine rK8.go _ _ (⟨hb5.cell c3, hb5.cell c4, hb5.cell c52⟩) (fun rS8 => ?_)
        clear rK8 K
        refine wpAnyN_ready (rs := [8]) (by kernel_rfl) (by simp) ?_
        refine AllN.cons rfl (fun K rK9 => ?_) ?_
        · go_simp
          refine (text_any _ _).mono ?_
          rintro e w6 ⟨rfl, hb6⟩
          dsimp only
          refine rK9.go _ _ (⟨(hb5.trans hb6).cell c3, (hb5.trans hb6).cell c4, (hb5.trans hb6).cell c52⟩) (fun rS9 => ?_)
          clear rK9 K
          refine wpAnyN_ready (rs := [9]) (by kernel_rfl) (by simp) ?_
          refine AllN.cons rfl (fun K rK10 => ?_) ?_
          · go_simp
            refine (badd_any w0 _ b g' k0 f0 v0 rr ((hBr.more (Bl.refl wr).drew).more (hb5.trans hb6)) _ _ _ _ .nil (Rep.nil _ _) (by omega) (by omega)).mono ?_
            rintro e w7 ⟨rfl, ⟨v7, hB7⟩, hO7⟩
            dsimp only
            have g3 := hO7.kept (((hb5.trans hb6).block (heap_lt e3)).trans e3) (by decide) (by decide)
            have g4 := hO7.kept (((hb5.trans hb6).block (heap_lt e4)).trans e4) (by decide) (by decide)
            have g5 := hO7.kept (((hb5.trans hb6).block (heap_lt e5)).trans e5) (by decide) (by decide)
            refine rK10.go _ _ (⟨by rw [Lib.cell_of_heap g3]; rfl, by rw [Lib.cell_of_heap g4]; rfl, by rw [Lib.cell_of_heap g5]; rfl⟩) (fun rS10 => ?_)
            clear rK10 K
            refine wpAnyN_done (by kernel_rfl) ?_ _
            refine NoPanic.normal ?_
            have HS7 := Lib.hid (show bsOf ((k0, f0.snoc 14 (List.replicate lf r.c) [] .nil, v7) :: rr) = (Bs.ends u.closes (bsOf st)).add 14 (List.replicate u.left.toNat r.c) [] .nil by rw [← hrel.out, HLF.out]; rfl)
            have d51 : w7.cell? ⟨w.heap.size + 1 + 1, 1, none⟩ = some (.slice so sl sc) := by rw [Lib.cell_of_heap g5]; rfl
            have d3 : w7.cell? ⟨w.heap.size, 0, none⟩ = some (.pointer (some ⟨b, 0, none⟩)) := by rw [Lib.cell_of_heap g3]; rfl
            have hO17 : Oth2 w1 w7 := (hO.trans (Oth2.of_bl ((Bl.refl wr).drew.trans (hb5.trans hb6)))).trans hO7
            clear hHeld hrel
            go_wp2_with fail
            refine ((callsIn_wide (n := 5)).1 (back_int Fence.wide 5 trivial rfl so sl sc _)).mono ?_
            rintro e w8 ⟨rfl, hw8⟩
            go_wp2_with fail
            refine (wpIn_wide (n := 5)).1 ?_
            have hB8 := hB7.more ((Bl.refl w7).alloc (.cells #[.slice so sl sc] 84))
            have hbs : (w7.alloc (.cells #[.slice so sl sc] 84)).heap[w7.heap.size]? = some (.cells #[.slice so sl sc] 84 (0, 0)) := heap_alloc_new w7 _
            have hbx : (w7.alloc (.cells #[.slice so sl sc] 84)).heap[w.heap.size]? = some (.cells #[.pointer (some ⟨b, 0, none⟩)] 73 (0, 0)) := (((Bl.refl w7).alloc _).block (heap_lt g3)).trans g3
            have hO18 : Oth2 w1 (w7.alloc (.cells #[.slice so sl sc] 84)) := hO17.trans (Oth2.of_bl ((Bl.refl w7).alloc _))
            obtain ⟨w9, hw9⟩ : ∃ w9, w7.alloc (.cells #[.slice so sl sc] 84) = w9 := ⟨_, rfl⟩
            rw [hw9] at hB8 hbs hbx hO18 ⊢
            obtain ⟨Bx, hBs⟩ : ∃ Bx, w7.heap.size = Bx := ⟨_, rfl⟩
            rw [hBs] at hbs ⊢
            clear hw9 hBs hw8
            obtain ⟨ob', hob, hcells⟩ : ∃ ob', ob' < w9.heap.size ∧ ((ob' = Bx ∧ Value.slice so sl sc = .slice none 0 0 ∧ u.opens = []) ∨ ∃ off cap, Value.slice so sl sc = .slice (some ⟨ob', off, none⟩) u.opens.length cap ∧ ob' < w0.heap.size ∧ ∀ (j k : Nat), u.opens[j]? = some k → w9.cell? ⟨ob', off + j, none⟩ = some (.int .i64 (k : Int))) := by
              rcases hs with ⟨h1, h2⟩ | ⟨off, cap, h1, h2, h3⟩
              · exact ⟨Bx, heap_lt hbs, .inl ⟨rfl, h1, h2⟩⟩
              · exact ⟨ob, Nat.lt_of_lt_of_le h2 hB8.bl.size, .inr ⟨off, cap, h1, h2, fun j k hj => hB8.bl.cell (h3 j k hj)⟩⟩
            refine wpIn_rangeFunc_ownG rfl (by decide) (gf := 139) (lb := #[.pointer (some ⟨Bx, 0, none⟩)]) rfl trivial (enters_of Tryz.func139 (by kernel_rfl) rfl)
              (back_stops_int (fun k : Nat => Value.int .i64 (k : Int)) Fence.wide 4 trivial rfl (by decide) Bx ob' _ u.opens (by omega) w9 hbs (hcells.imp (fun h => h.2) (fun ⟨off, cap, e1, _, e3⟩ => ⟨off, cap, e1, hob, e3⟩))) Kp2.trans ?hKb (Below.refl _ _) (fun _ => rfl)
              (RunI w0 w9 b ((Bs.ends u.closes (bsOf st)).add 14 (List.replicate u.left.toNat r.c) [] .nil)) (fun _ _ _ => False) ?hI ?hIx ?h0 ?a1 ?assign ?body ?done ?stop
            case assign =>
              intro l x W K hK
              gi_wp2
              exact hK
            case hKb =>
              intro W l o o' hl _ _ _
              exact ⟨World.putObj_heap_other (fun e => by have := heap_lt hbs; omega), World.putObj_heap_other (fun e => by omega)⟩
            case hI =>
              rintro pre W W' row ⟨⟨g1, st1, a1, a2⟩, a3⟩ hg hr
              refine ⟨⟨g1, st1, a1.other hg (fun x hx => ⟨Nat.le_trans hB8.bl.size (hr x hx).1, (hr x hx).2⟩), a2⟩, a3.other hg (fun x hx => (hr x hx).1)⟩
            case hIx => intro c s W W' row hs; exact hs.elim
            case h0 => exact ⟨⟨g', _, hB8, HS7.out⟩, Oth2.refl _⟩
            case stop =>
              rintro D c pre W _ _ hx
              exact hx.elim
            case body =>
              rintro l pre x W ⟨⟨g1, st1, a1, a2⟩, a3⟩ hpre
              have cW : W.cell? ⟨w.heap.size, 0, none⟩ = some (.pointer (some ⟨b, 0, none⟩)) := by rw [Lib.cell_of_heap (a3.kept hbx (by decide) (by decide))]; rfl
              have hl1 : st1.length ≤ 1000000 := by
                have e := congrArg List.length a2
                rw [bsOf_length, begun_length, ← HS7.out, bsOf_length] at e
                have h5 := Nat.le_trans hln hszj
                simp at e h5
                omega
              have A2 := Lib.hid (show begun (pre ++ [x]) ((Bs.ends u.closes (bsOf st)).add 14 (List.replicate u.left.toNat r.c) [] .nil) = (x.2, .nil) :: bsOf st1 by rw [a2]; unfold begun; rw [List.foldl_append]; rfl)
              clear a2
              gi_wp2_with fail
              refine ⟨trivial, ?_⟩
              refine (CallsIn.inRound l ((callsIn_wide (n := 2)).2 (bbegin_any w0 W b g1 st1 a1 x.2 hl1))).mono ?_
              rintro e W2 ⟨rfl, ⟨g2, hB2⟩, hO2⟩
              gi_wp2_with fail
              refine ⟨hO2.others.from _, ⟨?_, ?_⟩, ⟨g2, _, hB2, A2.out.symm⟩, a3.trans hO2⟩
              · rw [(a3.trans hO2).kept hbs (by decide) (by decide), a3.kept hbs (by decide) (by decide)]
              · rcases hcells with ⟨e1, _⟩ | ⟨off, cap, _, e2, _⟩
                · rw [e1, (a3.trans hO2).kept hbs (by decide) (by decide), a3.kept hbs (by decide) (by decide)]
                · rw [hB2.bl.block e2, a1.bl.block e2]
            case done =>
              rintro D ys W hD rfl ⟨⟨g1, st1, a1, a2⟩, a3⟩ hK
              gi_wp2
              refine ⟨by simp, .inl ⟨_, _, rfl, run_takeDeferred hK, ?_⟩⟩
              have hg := grownBy_putObj' W D (.deferred none)
              refine ⟨_, results_none rfl _ _ _, rfl, g1, st1, ?_, a1.other hg (fun x hx => ⟨by cases hx; exact Nat.le_trans hB8.bl.size hD, _, by cases hx; exact hK, rfl⟩), ?_⟩
              · rw [a2, begun_map, back_all]; rfl
              · exact (Oth2.of_bl hbl).trans (hO18.trans (a3.other hg (fun x hx => by cases hx; exact hD)))
          exact AllN.nil
        exact AllN.nil
      exact AllN.nil

end Go.Proofs.YtjocbifjmchbcaaGreatDoor
/- Pieces in memory; the runs of them. -/
namespace Go.Proofs.YtjocbifjmchbcaaGreatDoor
open Go.RowKit

/-- A piece as a value. -/
def PcV (w : World) : Pc → Value → Prop
  | .node k s t l, x => ∃ v, x = .iface 77 (.agg #[.int .i64 (k : Int), .string (mkB s), .string (mkB t), .int .i64 0, .int .i64 0, .bool false, v]) ∧ Rep w [] v l
  | .run r, x => x = .iface 69 (.agg #[.int .u8 (r.c.toNat : Int), .int .i64 (r.n : Int), .bool r.o, .bool r.cl])
  | .op img live at_, x => ∃ ob, x = .iface 79 (.pointer (some ⟨ob, 0, none⟩)) ∧ w.heap[ob]? = some (.cells #[.string (mkB (opS img)), .bool live, .int .i64 (at_ : Int)] 82 (0, 0))
theorem PcV.bl {w w' : World} (k : Bl w w') : ∀ {p : Pc} {x : Value}, PcV w p x → PcV w' p x
  | .node _ _ _ _, _, ⟨v, h1, h2⟩ => ⟨v, h1, h2.bl k⟩
  | .run _, _, h => h
  | .op _ _ _, _, ⟨ob, h1, h2⟩ => ⟨ob, h1, (k.block (heap_lt h2)).trans h2⟩
/-- A slice of pieces, to be read. -/
structure Pcs (w : World) (so : Option Addr) (l : List Pc) : Prop where
  get : ∀ (i : Nat) (p : Pc), l[i]? = some p → ∃ b o z, so = some ⟨b, o, none⟩ ∧ w.cell? ⟨b, o + i, none⟩ = some z ∧ PcV w p z
theorem Pcs.bl {w w' : World} {so : Option Addr} {l : List Pc} (h : Pcs w so l) (k : Bl w w') : Pcs w' so l :=
  ⟨fun i p hp => by obtain ⟨b, o, z, h1, h2, h3⟩ := h.get i p hp; exact ⟨b, o, z, h1, k.cell h2, h3.bl k⟩⟩
def rCells (l : List Rn) : List Value := l.flatMap fun r => [.int .u8 (r.c.toNat : Int), .int .i64 (r.n : Int), .bool r.o, .bool r.cl]
theorem rCells_snoc (l : List Rn) (r : Rn) : rCells (l ++ [r]) = rCells l ++ [.int .u8 (r.c.toNat : Int), .int .i64 (r.n : Int), .bool r.o, .bool r.cl] := by simp [rCells]
theorem rCells_get : ∀ (E : List Rn) (i : Nat) (e : Rn), E[i]? = some e → (rCells E)[i * 4]? = some (.int .u8 (e.c.toNat : Int)) ∧ (rCells E)[i * 4 + 1]? = some (.int .i64 (e.n : Int)) ∧ (rCells E)[i * 4 + 2]? = some (.bool e.o) ∧ (rCells E)[i * 4 + 3]? = some (.bool e.cl)
  | [], i, e, h => by cases h
  | a :: t, 0, e, h => by cases h; exact ⟨rfl, rfl, rfl, rfl⟩
  | a :: t, i + 1, e, h => by
    have ih := rCells_get t i e (by simpa using h)
    have e1 : rCells (a :: t) = [.int .u8 (a.c.toNat : Int), .int .i64 (a.n : Int), .bool a.o, .bool a.cl] ++ rCells t := rfl
    rw [e1]
    refine ⟨?_, ?_, ?_, ?_⟩
    · rw [List.getElem?_append_right (by simp; omega)]; have : (i + 1) * 4 - [Value.int .u8 (a.c.toNat : Int), .int .i64 (a.n : Int), .bool a.o, .bool a.cl].length = i * 4 := by simp; omega
      rw [this]; exact ih.1
    · rw [List.getElem?_append_right (by simp; omega)]; have : (i + 1) * 4 + 1 - [Value.int .u8 (a.c.toNat : Int), .int .i64 (a.n : Int), .bool a.o, .bool a.cl].length = i * 4 + 1 := by simp; omega
      rw [this]; exact ih.2.1
    · rw [List.getElem?_append_right (by simp; omega)]; have : (i + 1) * 4 + 2 - [Value.int .u8 (a.c.toNat : Int), .int .i64 (a.n : Int), .bool a.o, .bool a.cl].length = i * 4 + 2 := by simp; omega
      rw [this]; exact ih.2.2.1
    · rw [List.getElem?_append_right (by simp; omega)]; have : (i + 1) * 4 + 3 - [Value.int .u8 (a.c.toNat : Int), .int .i64 (a.n : Int), .bool a.o, .bool a.cl].length = i * 4 + 3 := by simp; omega
      rw [this]; exact ih.2.2.2
theorem Rns.of_row {w : World} {base g n cap : Nat} {l : List Rn} (h : w.ownsRow base 67 4 (.slice (some ⟨g, 0, none⟩) n cap) n (rCells l)) (hn : l.length = n) : Rns w g 0 cap l := by
  rcases h.2 with ⟨h1, _⟩ | ⟨g, cap', cur, h1, hb, hg, hc, _, hs, ht⟩
  · cases h1
  · cases h1
    refine ⟨⟨by omega, cur, _, hg, fun i r hi => ?_⟩⟩
    have hc := rCells_get l i r hi
    have hlt := (List.getElem?_eq_some_iff.1 hi).1
    rw [← ht] at hc
    simp only [List.getElem?_take] at hc
    rw [if_pos (by omega), if_pos (by omega), if_pos (by omega), if_pos (by omega)] at hc
    simpa using hc
theorem infoRun : (Tryz.prog.info? 67).map (fun i => (i.zero, i.size, i.bytes)) = some (some (.agg #[.int .u8 0, .int .i64 0, .bool false, .bool false]), 4, 24) := by kernel_rfl
theorem runsL_app : ∀ a b : List Pc, runsL (a ++ b) = runsL a ++ runsL b
  | [], b => rfl
  | .run r :: t, b => by simp [runsL, runsL_app t b]
  | .node _ _ _ _ :: t, b => by simp [runsL, runsL_app t b]
  | .op _ _ _ :: t, b => by simp [runsL, runsL_app t b]
theorem runsL_len : ∀ l : List Pc, (runsL l).length ≤ l.length
  | [] => Nat.le_refl _
  | .run r :: t => by have := runsL_len t; simp [runsL]; omega
  | .node _ _ _ _ :: t => by have := runsL_len t; simp [runsL]; omega
  | .op _ _ _ :: t => by have := runsL_len t; simp [runsL]; omega
/-- How great pieces may grow, as nodes. -/
def wgt : List Pc → Nat
  | [] => 0
  | .run r :: t => r.n + 1 + wgt t
  | _ :: t => 1 + wgt t
theorem wgt_len : ∀ l, l.length ≤ wgt l
  | [] => Nat.le_refl _
  | .run r :: t => by have := wgt_len t; simp [wgt]; omega
  | .node _ _ _ _ :: t => by have := wgt_len t; simp [wgt]; omega
  | .op _ _ _ :: t => by have := wgt_len t; simp [wgt]; omega
theorem wgt_run : ∀ (l : List Pc) (r : Rn), .run r ∈ l → r.n + 1 ≤ wgt l
  | .run x :: t, r, h => by
    rcases List.mem_cons.1 h with h | h
    · cases h; simp [wgt]
    · have := wgt_run t r h; simp [wgt]; omega
  | .node _ _ _ _ :: t, r, h => by
    rcases List.mem_cons.1 h with h | h
    · cases h
    · have := wgt_run t r h; simp [wgt]; omega
  | .op _ _ _ :: t, r, h => by
    rcases List.mem_cons.1 h with h | h
    · cases h
    · have := wgt_run t r h; simp [wgt]; omega
theorem mem_runsL : ∀ (l : List Pc) (r : Rn), r ∈ runsL l → .run r ∈ l
  | .run x :: t, r, h => by
    simp [runsL] at h
    rcases h with rfl | h
    · exact List.mem_cons_self
    · exact List.mem_cons_of_mem _ (mem_runsL t r h)
  | .node _ _ _ _ :: t, r, h => List.mem_cons_of_mem _ (mem_runsL t r h)
  | .op _ _ _ :: t, r, h => List.mem_cons_of_mem _ (mem_runsL t r h)

set_option maxRecDepth 100000 in
set_option maxHeartbeats 4000000 in
theorem match_nil (w : World) : Calls Tryz.prog 82 #[.slice none 0 0] w fun e w' => e = .returned (.slice none 0 0) ∧ Bl w w' := by
  have hmm := @run_makeMap Tryz.prog
  go_enter Tryz.func82, Tryz.ntmps82
  go_wp2_with fail
  obtain ⟨w1, hw1⟩ : ∃ w1, (w.alloc (.map #[] 0)).alloc (.cells #[.slice none 0 0, .slice none 0 0, .map (some w.heap.size)] 177) = w1 := ⟨_, rfl⟩
  have hb1 : Bl w w1 := by rw [← hw1]; exact ((Bl.refl w).alloc _).alloc _
  rw [hw1]
  clear hw1
  go_loopw [16] (fun v wr => v = .int .i64 0 ∧ Bl w wr) (fun _ _ => 0)
  case atStart => exact ⟨rfl, hb1⟩
  case round =>
    obtain ⟨rfl, hbr⟩ := hrel
    go_wp2_with fail
    go_loopw [7, 8] (fun v7 v8 wr => v7 = .slice none 0 0 ∧ v8 = .int .i64 0 ∧ Bl w wr) (fun _ _ _ => 0)
    case atStart => exact ⟨rfl, rfl, hbr⟩
    case round =>
      obtain ⟨rfl, rfl, hbr2⟩ := hrel
      go_wp2_with fail
      go_ret
      exact ⟨rfl, hbr2⟩
set_option maxRecDepth 100000 in
set_option maxHeartbeats 4000000 in
theorem usage_nil (w : World) : Calls Tryz.prog 40 #[.slice none 0 0] w fun e w' => ∃ so n c, e = .returned (.slice so n c) ∧ Bl w w' := by
  obtain ⟨iu, hiu, huz, hus, hub⟩ := info_parts infoUses
  have hb3 : (0 : Nat) ≤ maxLen := Nat.zero_le _
  have hb2 : iu.bytes * 0 ≤ 281474976710656 := by omega
  go_enter Tryz.func40, Tryz.ntmps40
  go_wp2_with (at_make; go_loud (refine wpList_make_full w rfl _ _ _ rfl w.heap.size 86 iu _ 3 Tryz.underlying71 hiu huz hus .i64 .i64 (0 : Int) (0 : Int) 0 rfl rfl rfl rfl hb2 hb3 (Nat.le_refl _) ?_; intro w1 hown1 hgrow1))
  have hb1 : Bl w w1 := (Bl.refl w).grown hgrow1 (by simp)
  clear hown1 hgrow1
  obtain ⟨ub, hubE⟩ : ∃ ub, w.heap.size = ub := ⟨_, rfl⟩
  rw [hubE]
  go_loopw [13] (fun v wr => v = .int .i64 0 ∧ Bl w wr) (fun _ _ => 0)
  case atStart => exact ⟨rfl, hb1⟩
  case round =>
    obtain ⟨rfl, hbr⟩ := hrel
    go_wp2_with fail
    refine (match_nil _).mono ?_
    rintro e w2 ⟨rfl, hb2⟩
    have hb2 := hbr.trans hb2
    dsimp only
    go_wp2_with fail
    go_loopw [28] (fun v wr => v = .int .i64 0 ∧ Bl w wr) (fun _ _ => 0)
    case atStart => exact ⟨rfl, hb2⟩
    case round =>
      obtain ⟨rfl, hbr2⟩ := hrel
      go_wp2_with fail
      go_ret
      exact ⟨_, _, _, rfl, hbr2⟩
end Go.Proofs.YtjocbifjmchbcaaGreatDoor
/- The pieces' types, asked. -/
namespace Go.Proofs.YtjocbifjmchbcaaGreatDoor
open Go.RowKit

set_option maxRecDepth 100000 in
theorem ta_node_node (v : Value) (w : World) : (Instr.typeAssert (.iface 77 v) 65 77 true).run Tryz.prog w = .ok (.tuple #[v, .bool true]) w := by kernel_rfl
set_option maxRecDepth 100000 in
theorem ta_node_run (v : Value) (w : World) : (Instr.typeAssert (.iface 77 v) 65 69 true).run Tryz.prog w = .ok (.tuple #[.agg #[.int .u8 0, .int .i64 0, .bool false, .bool false], .bool false]) w := by kernel_rfl
set_option maxRecDepth 100000 in
theorem ta_node_op (v : Value) (w : World) : (Instr.typeAssert (.iface 77 v) 65 79 true).run Tryz.prog w = .ok (.tuple #[.pointer none, .bool false]) w := by kernel_rfl
set_option maxRecDepth 100000 in
theorem ta_run_node (v : Value) (w : World) : (Instr.typeAssert (.iface 69 v) 65 77 true).run Tryz.prog w = .ok (.tuple #[.agg #[.int .i64 0, .string ⟨#[]⟩, .string ⟨#[]⟩, .int .i64 0, .int .i64 0, .bool false, .slice none 0 0], .bool false]) w := by kernel_rfl
set_option maxRecDepth 100000 in
theorem ta_run_run (v : Value) (w : World) : (Instr.typeAssert (.iface 69 v) 65 69 true).run Tryz.prog w = .ok (.tuple #[v, .bool true]) w := by kernel_rfl
set_option maxRecDepth 100000 in
theorem ta_run_op (v : Value) (w : World) : (Instr.typeAssert (.iface 69 v) 65 79 true).run Tryz.prog w = .ok (.tuple #[.pointer none, .bool false]) w := by kernel_rfl
set_option maxRecDepth 100000 in
theorem ta_op_node (v : Value) (w : World) : (Instr.typeAssert (.iface 79 v) 65 77 true).run Tryz.prog w = .ok (.tuple #[.agg #[.int .i64 0, .string ⟨#[]⟩, .string ⟨#[]⟩, .int .i64 0, .int .i64 0, .bool false, .slice none 0 0], .bool false]) w := by kernel_rfl
set_option maxRecDepth 100000 in
theorem ta_op_run (v : Value) (w : World) : (Instr.typeAssert (.iface 79 v) 65 69 true).run Tryz.prog w = .ok (.tuple #[.agg #[.int .u8 0, .int .i64 0, .bool false, .bool false], .bool false]) w := by kernel_rfl
set_option maxRecDepth 100000 in
theorem ta_op_op (v : Value) (w : World) : (Instr.typeAssert (.iface 79 v) 65 79 true).run Tryz.prog w = .ok (.tuple #[v, .bool true]) w := by kernel_rfl
end Go.Proofs.YtjocbifjmchbcaaGreatDoor
/- Plain facts on what runs are used for: no more is ended than was begun, and what is left is no less than nothing. -/
namespace Go.Proofs.YtjocbifjmchbcaaGreatDoor
theorem used_split (i : Nat) : ∀ p : List (Nat × Nat × Nat), (usedR i p : Int) = ((p.filter fun x => x.1 == i).map fun x => (x.2.2 : Int)).sum + ((p.filter fun x => x.2.1 == i).map fun x => (x.2.2 : Int)).sum
  | [] => by simp [usedR]
  | a :: t => by
    have := used_split i t
    rw [usedR, List.filter_cons, List.filter_cons]
    by_cases h1 : (a.1 == i) = true <;> by_cases h2 : (a.2.1 == i) = true <;> simp only [h1, h2, if_true, if_false, List.map_cons, List.sum_cons, Bool.false_eq_true] <;> push_cast <;> omega
theorem use_left (l : List Rn) (k : Nat) (h : k < l.length) : 0 ≤ (useL l (matchL l) k).left ∧ (useL l (matchL l) k).left ≤ (l.getD k default).n := by
  have h1 := matchL_used l k h
  have h2 := used_split k (matchL l)
  unfold useL
  dsimp only
  omega
/-- Is there all along enough that is open? -/
def Deep : List Pc → List Us → Nat → Prop
  | [], _, d => 1 ≤ d
  | .run r :: t, u, d => ∃ x v, u = x :: v ∧ x.closes + 1 ≤ d ∧ 0 ≤ x.left ∧ x.left ≤ r.n ∧ Deep t v (d - x.closes + x.opens.length)
  | .node _ _ _ _ :: t, u, d => 1 ≤ d ∧ Deep t u d
  | .op _ _ _ :: t, u, d => 1 ≤ d ∧ Deep t u d
def befO (i : Nat) (p : List (Nat × Nat × Nat)) : Nat := p.countP fun x => decide (x.1 < i)
def befC (i : Nat) (p : List (Nat × Nat × Nat)) : Nat := p.countP fun x => decide (x.2.1 < i)
theorem befO_succ (i : Nat) : ∀ p : List (Nat × Nat × Nat), befO (i + 1) p = befO i p + (p.filter fun x => x.1 == i).length
  | [] => rfl
  | a :: t => by
    have := befO_succ i t
    unfold befO at this ⊢
    rw [List.countP_cons, List.countP_cons, List.filter_cons, this]
    by_cases h : a.1 = i
    · subst h
      have h1 : (a.1 == a.1) = true := by simp
      rw [if_pos h1]
      simp; omega
    · have h1 : (a.1 == i) = false := by simpa using h
      rw [h1]
      by_cases h2 : a.1 < i
      · simp [h2, Nat.lt_succ_of_lt h2]; omega
      · have h3 : ¬ a.1 < i + 1 := by omega
        simp [h2, h3]
theorem befC_succ (i : Nat) : ∀ p : List (Nat × Nat × Nat), befC (i + 1) p = befC i p + (p.filter fun x => x.2.1 == i).length
  | [] => rfl
  | a :: t => by
    have := befC_succ i t
    unfold befC at this ⊢
    rw [List.countP_cons, List.countP_cons, List.filter_cons, this]
    by_cases h : a.2.1 = i
    · have h1 : (a.2.1 == i) = true := by simpa using h
      rw [if_pos h1]
      simp [h]; omega
    · have h1 : (a.2.1 == i) = false := by simpa using h
      rw [h1]
      by_cases h2 : a.2.1 < i
      · simp [h2, Nat.lt_succ_of_lt h2]; omega
      · have h3 : ¬ a.2.1 < i + 1 := by omega
        simp [h2, h3]
theorem bef_le {p : List (Nat × Nat × Nat)} (h : ∀ x ∈ p, x.1 < x.2.1) (i : Nat) : befC (i + 1) p ≤ befO i p := by
  induction p with
  | nil => exact Nat.le_refl _
  | cons a t ih =>
    have ih := ih (fun x hx => h x (List.mem_cons_of_mem _ hx))
    have ha := h a List.mem_cons_self
    unfold befC befO at ih ⊢
    rw [List.countP_cons, List.countP_cons]
    by_cases h2 : a.2.1 < i + 1
    · have h3 : a.1 < i := by omega
      simp [h2, h3]; omega
    · simp [h2]; omega
theorem deep_from (l : List Rn) : ∀ (r : List Pc) (i : Nat), runsL r = l.drop i → Deep r ((List.range' i (l.length - i)).map (useL l (matchL l))) (1 + befO i (matchL l) - befC i (matchL l))
  | [], i, _ => by
    have := bef_le (fun x hx => (matchL_out l x hx).1) i
    have h2 : befC i (matchL l) ≤ befC (i + 1) (matchL l) := by rw [befC_succ]; omega
    unfold Deep; omega
  | .node _ _ _ _ :: r, i, h => by
    have := bef_le (fun x hx => (matchL_out l x hx).1) i
    have h2 : befC i (matchL l) ≤ befC (i + 1) (matchL l) := by rw [befC_succ]; omega
    exact ⟨by omega, deep_from l r i h⟩
  | .op _ _ _ :: r, i, h => by
    have := bef_le (fun x hx => (matchL_out l x hx).1) i
    have h2 : befC i (matchL l) ≤ befC (i + 1) (matchL l) := by rw [befC_succ]; omega
    exact ⟨by omega, deep_from l r i h⟩
  | .run x :: r, i, h => by
    have hb := bef_le (fun x hx => (matchL_out l x hx).1) i
    have hc := befC_succ i (matchL l)
    have ho := befO_succ i (matchL l)
    have hi : i < l.length := by
      rcases Nat.lt_or_ge i l.length with h' | h'
      · exact h'
      · rw [List.drop_of_length_le h'] at h; simp [runsL] at h
    have hx : x = l.getD i default ∧ runsL r = l.drop (i + 1) := by
      rw [List.drop_eq_getElem_cons hi] at h
      simp only [runsL, List.cons.injEq] at h
      refine ⟨?_, h.2⟩
      rw [h.1, List.getD_eq_getElem?_getD, List.getElem?_eq_getElem hi]; rfl
    have hl := use_left l i hi
    refine ⟨useL l (matchL l) i, (List.range' (i + 1) (l.length - (i + 1))).map (useL l (matchL l)), ?_, ?_, hl.1, ?_, ?_⟩
    · rw [show l.length - i = (l.length - (i + 1)) + 1 from by omega, List.range'_succ, List.map_cons]
    · show ((matchL l).filter fun x => x.2.1 == i).length + 1 ≤ _
      omega
    · rw [hx.1]; exact hl.2
    · have e : 1 + befO i (matchL l) - befC i (matchL l) - (useL l (matchL l) i).closes + (useL l (matchL l) i).opens.length = 1 + befO (i + 1) (matchL l) - befC (i + 1) (matchL l) := by
        show 1 + befO i (matchL l) - befC i (matchL l) - ((matchL l).filter fun x => x.2.1 == i).length + (((matchL l).filter fun x => x.1 == i).map _).length = _
        rw [List.length_map]; omega
      rw [e]
      exact deep_from l r (i + 1) hx.2
theorem deep_all (l : List Pc) : Deep l (usageL (runsL l)) 1 := by
  have := deep_from (runsL l) l 0 (by simp)
  unfold usageL
  rw [List.range_eq_range']
  have e : 1 + befO 0 (matchL (runsL l)) - befC 0 (matchL (runsL l)) = 1 := by simp [befO, befC]
  rw [e] at this
  exact this
end Go.Proofs.YtjocbifjmchbcaaGreatDoor
/- Plain facts on building; uses as they are read. -/
namespace Go.Proofs.YtjocbifjmchbcaaGreatDoor
open Go.RowKit

theorem addr0 (g j : Nat) : (⟨g, 0, none⟩ : Addr).add j = ⟨g, j, none⟩ := by unfold Addr.add; split <;> simp_all
theorem add_length (b : Bs) (k : Nat) (s t : List UInt8) (l : Fo) : (b.add k s t l).length = b.length := by
  cases b with
  | nil => rfl
  | cons x r => rfl
theorem endL_length : ∀ b : Bs, b.endL.length = b.length - 1
  | [] => rfl
  | (k, f) :: r => by show (Bs.add r k [] [] f).length = _; rw [add_length]; simp
theorem ends_length : ∀ (n : Nat) (b : Bs), (Bs.ends n b).length = b.length - n
  | 0, b => rfl
  | n + 1, b => by show (Bs.ends n b.endL).length = _; rw [ends_length n, endL_length]; omega
theorem begun_length' : ∀ (l : List Nat) (b : Bs), (l.foldl (fun b k => (k, Fo.nil) :: b) b).length = b.length + l.length
  | [], b => rfl
  | k :: t, b => by rw [List.foldl_cons, begun_length' t]; simp; omega
theorem begun_size : ∀ (l : List Nat) (b : Bs), bsSz (l.foldl (fun b k => (k, Fo.nil) :: b) b) = bsSz b + l.length
  | [], b => rfl
  | k :: t, b => by rw [List.foldl_cons, begun_size t]; simp [bsSz, Fo.len]; omega
theorem runL_length (b : Bs) (r : Rn) (u : Us) : (Bs.runL b r u).length = b.length - u.closes + u.opens.length := by
  unfold Bs.runL; rw [begun_length', add_length, ends_length]; simp
theorem runL_size (b : Bs) (r : Rn) (u : Us) : bsSz (Bs.runL b r u) ≤ bsSz b + 1 + u.opens.length := by
  unfold Bs.runL
  rw [begun_size]
  have h1 := bsSz_add (b.ends u.closes) 14 (List.replicate u.left.toNat r.c) [] .nil
  have h2 := bsSz_ends u.closes b
  simp; omega
theorem opens_used (k : Nat) : ∀ p : List (Nat × Nat × Nat), (∀ x ∈ p, 1 ≤ x.2.2) → (p.filter fun x => x.1 == k).length ≤ usedR k p
  | [], _ => Nat.le_refl _
  | a :: p, h => by
    have ih := opens_used k p (fun x hx => h x (List.mem_cons_of_mem _ hx))
    have ha := h a List.mem_cons_self
    rw [usedR, List.filter_cons]
    by_cases e : a.1 = k
    · simp [e]; omega
    · simp [e]; omega
theorem usageL_get {l : List Rn} {i : Nat} {u : Us} (h : (usageL l)[i]? = some u) : i < l.length ∧ u = useL l (matchL l) i := by
  unfold usageL at h
  rw [List.getElem?_map] at h
  by_cases hi : i < l.length
  · rw [List.getElem?_range hi] at h; cases h; exact ⟨hi, rfl⟩
  · rw [List.getElem?_eq_none (by simp; omega)] at h; cases h
theorem usageL_len (l : List Rn) : (usageL l).length = l.length := by simp [usageL]
theorem usage_opens {l : List Rn} {i : Nat} {r : Rn} {u : Us} (hr : l[i]? = some r) (h : (usageL l)[i]? = some u) : u.opens.length ≤ r.n := by
  obtain ⟨hi, rfl⟩ := usageL_get h
  have h1 := opens_used i (matchL l) (fun x hx => (matchL_out l x hx).2.2)
  have h2 := matchL_used l i hi
  rw [getD_rn hr] at h2
  unfold useL
  simp; omega
/-- Uses in memory, to be read from the front. -/
structure UsAt (w : World) (v : Value) (us : List Us) : Prop where
  form : ∃ so n c, v = .slice so n c
  at_ : us ≠ [] → ∃ b o c, v = .slice (some ⟨b, o, none⟩) us.length c ∧ us.length ≤ c ∧ ∀ (i : Nat) (u : Us), us[i]? = some u → ∃ sv ob, w.cell? ⟨b, o + i * 3, none⟩ = some (.int .i64 (u.closes : Int)) ∧ w.cell? ⟨b, o + i * 3 + 1, none⟩ = some sv ∧ w.cell? ⟨b, o + i * 3 + 2, none⟩ = some (.int .i64 u.left) ∧
    ((sv = .slice none 0 0 ∧ u.opens = []) ∨ ∃ off cap, sv = .slice (some ⟨ob, off, none⟩) u.opens.length cap ∧ ob < w.heap.size ∧ ∀ (j k : Nat), u.opens[j]? = some k → w.cell? ⟨ob, off + j, none⟩ = some (.int .i64 (k : Int)))
theorem UsAt.nil (w : World) (so : Option Addr) (n c : Nat) : UsAt w (.slice so n c) [] := ⟨⟨_, _, _, rfl⟩, fun h => absurd rfl h⟩
theorem UsAt.of {w : World} {base ub n : Nat} {l : List Rn} {v : Nat → Value} (h : Uz w base ub n (useL l (matchL l)) v) (hl : l.length = n) : UsAt w (.slice (some ⟨ub, 0, none⟩) n n) (usageL l) := by
  have hln : (usageL l).length = n := by rw [usageL_len, hl]
  refine ⟨⟨_, _, _, rfl⟩, fun _ => ⟨ub, 0, n, by rw [hln], by omega, fun i u hi => ?_⟩⟩
  obtain ⟨hil, rfl⟩ := usageL_get hi
  obtain ⟨c0, c1, c2⟩ := h.cells (i := i) (by omega)
  have hr := h.rows i (by omega)
  have hf : (v i).ownBlock = (v i).ownBlock := rfl
  rcases hr.2 with ⟨h1, h2⟩ | ⟨g, cap, cur, h1, _, hg, _, _, _, _⟩
  · refine ⟨v i, 0, by simpa using c0, by simpa using c1, by simpa using c2, .inl ⟨h1, by simpa using h2⟩⟩
  · refine ⟨v i, g, by simpa using c0, by simpa using c1, by simpa using c2, .inr ⟨0, cap, h1, heap_lt hg, fun j k hj => ?_⟩⟩
    have := hr.cells (g := g) (by rw [h1]; rfl) j (.int .i64 (k : Int)) (by unfold opsV; rw [List.getElem?_map, hj]; rfl)
    rwa [show (⟨g, 0, none⟩ : Addr).add j = ⟨g, 0 + j, none⟩ by unfold Addr.add; split <;> simp_all] at this
theorem UsAt.bl {w w' : World} {v : Value} {us : List Us} (h : UsAt w v us) (k : Bl w w') : UsAt w' v us := by
  refine ⟨h.form, fun hn => ?_⟩
  obtain ⟨b, o, c, h1, h2, h3⟩ := h.at_ hn
  refine ⟨b, o, c, h1, h2, fun i u hi => ?_⟩
  obtain ⟨sv, ob, g1, g2, g3, g4⟩ := h3 i u hi
  refine ⟨sv, ob, k.cell g1, k.cell g2, k.cell g3, ?_⟩
  rcases g4 with g4 | ⟨off, cap, e1, e2, e3⟩
  · exact .inl g4
  · exact .inr ⟨off, cap, e1, Nat.lt_of_lt_of_le e2 k.size, fun j x hj => k.cell (e3 j x hj)⟩
/-- The outermost's nodes. -/
theorem OpenX.out {w : World} {base : Nat} {L : List Nat} : ∀ {st : Os} {xs : List Value}, OpenX w base L st xs → st ≠ [] → ∃ k f v ys, st.getLast? = some (k, f, v) ∧ xs = nodeV k [] [] v ++ ys ∧ Rep w [] v f
  | [x], xs, ⟨ys, zs, h1, h2, h3, h4⟩, _ => by
    obtain ⟨k, f, v⟩ := x
    rw [OpenX] at h4
    subst h4
    refine ⟨k, f, v, [], rfl, by rw [h1]; simp, ?_⟩
    refine Rep.of_row h2 (h3.more (Fr.refl L w) (fun x hx => by cases hx)) (fun b _ hb => by cases hb)
  | x :: y :: r, xs, ⟨ys, zs, h1, h2, h3, h4⟩, _ => by
    obtain ⟨k, f, v, ys', g1, g2, g3⟩ := OpenX.out h4 (by simp)
    refine ⟨k, f, v, ys' ++ nodeV x.1 [] [] x.2.2, by rw [List.getLast?_cons_cons]; exact g1, ?_, g3⟩
    rw [h1, g2, List.append_assoc]
theorem bsOf_last (st : Os) (k : Nat) (f : Fo) (v : Value) (h : st.getLast? = some (k, f, v)) : (bsOf st).getLast? = some (k, f) := by
  unfold bsOf; rw [List.getLast?_map, h]; rfl
theorem bds_first {w5 w6 : World} {g : Nat} (hown : w6.ownsRow w5.heap.size 27 7 (.slice (some ⟨g, 0, none⟩) 1 1) 1 (madeCells #[.int .i64 0, .string ⟨#[]⟩, .string ⟨#[]⟩, .int .i64 0, .int .i64 0, .bool false, .slice none 0 0] (1 * 7)).toList) (hg : w5.grownBy w6 none) :
    BdS w5 (w6.alloc (.cells #[.slice (some ⟨g, 0, none⟩) 1 1] 75)) w6.heap.size g [(0, .nil, .slice none 0 0)] := by
  have e : (madeCells #[.int .i64 0, .string ⟨#[]⟩, .string ⟨#[]⟩, .int .i64 0, .int .i64 0, .bool false, .slice none 0 0] (1 * 7)).toList = nodeV 0 [] [] (.slice none 0 0) := by
    simp [madeCells, Array.range, nodeV, mkB_nil]
  rw [e] at hown
  have hb : Bl w5 w6 := (Bl.refl w5).grown hg (by simp)
  refine ⟨⟨1, _, heap_alloc_new w6 _, hown.alloc _, ⟨[], [], rfl, World.ownsRow_nil _ _ _ _, rfl, rfl⟩⟩, by simp [blks, Value.ownBlock], hb.alloc _, hb.size⟩
/-- What was there ahead of the builder. -/
theorem BdS.far {w w0 wr wx : World} {b g : Nat} {st : Os} (h : BdS w0 wr b g st) (hw : Bl w w0) (k : Bl wr wx) {v : Value} {f : Fo} (hR : Rep w [] v f) : Rep wx (g :: blks st) v f := by
  obtain ⟨cap, xs, h1, h2, h3⟩ := h.ex
  refine hR.more (Fr.of_bl [] (hw.trans (h.bl.trans k))) (fun x hx => .inr ?_)
  rcases List.mem_cons.1 hx with rfl | hx
  · exact Nat.le_trans hw.size (h2.lt _ rfl).1
  · exact Nat.le_trans hw.size (OpenX.lt h3 x hx).1
theorem BdS.first {w0 w : World} {b g : Nat} {st : Os} (h : BdS w0 w b g st) (hn : st ≠ []) : ∃ cap v k f, w.cell? ⟨b, 0, none⟩ = some (.slice (some ⟨g, 0, none⟩) st.length cap) ∧ w.cell? ⟨g, 6, none⟩ = some v ∧ (bsOf st).getLast? = some (k, f) ∧ Rep w [] v f := by
  obtain ⟨cap, xs, h1, h2, h3⟩ := h.ex
  obtain ⟨k, f, v, ys, g1, g2, g3⟩ := OpenX.out h3 hn
  refine ⟨cap, v, k, f, by rw [Lib.cell_of_heap h1]; rfl, ?_, bsOf_last _ _ _ _ g1, g3⟩
  have := h2.cells (g := g) rfl 6 v (by rw [g2]; rfl)
  rwa [addr0] at this
end Go.Proofs.YtjocbifjmchbcaaGreatDoor
/- Pieces as nodes. -/
namespace Go.Proofs.YtjocbifjmchbcaaGreatDoor
open Go.RowKit

theorem runsL_take {l : List Pc} {q : Nat} {p : Pc} (h : l[q]? = some p) : runsL (l.take (q + 1)) = runsL (l.take q) ++ runsL [p] := by
  rw [List.take_add_one, h, runsL_app]; rfl
set_option maxRecDepth 100000 in
set_option maxHeartbeats 16000000 in
theorem nodes_any (w : World) (so : Option Addr) (n c : Nat) (l : List Pc) (hP : Pcs w so l) (hl : l.length = n) (hw : wgt l ≤ 100000) (hc : ∀ r, Pc.run r ∈ l → r.c.toNat < 128) :
    Calls Tryz.prog 21 #[.slice so n c] w fun e w' => ∃ v, e = .returned v ∧ Rep w' [] v (nodesL l) ∧ Bl w w' := by
  obtain ⟨ir, hir, hrz, hrs, hrb⟩ := info_parts infoRun
  obtain ⟨iq, hiq, hqz, hqs, hqb⟩ := info_parts infoNode
  have hq2 : iq.bytes * 1 ≤ 281474976710656 := by rw [hqb]; omega
  have hq3 : (1 : Nat) ≤ maxLen := by unfold maxLen; omega
  have hn1 : n ≤ 100000 := by have := wgt_len l; omega
  have A1 := ta_node_run; have A2 := ta_run_run; have A3 := ta_op_run; have A4 := ta_node_node; have A5 := ta_run_node; have A6 := ta_op_node; have A7 := ta_node_op; have A8 := ta_run_op; have A9 := ta_op_op
  obtain ⟨FIN, hFIN⟩ : ∃ FIN, buildL l (usageL (runsL l)) [(0, .nil)] = FIN := ⟨_, rfl⟩
  have hND : nodesL l = (FIN.getLast?.map (·.2)).getD .nil := by rw [← hFIN]; rfl
  rw [hND]
  have hFIN := Lib.hid hFIN
  have hdeep := deep_all l
  clear hND
  go_enter Tryz.func21, Tryz.ntmps21
  go_wp2_with fail
  go_loopw [3, 17] (fun v3 v17 wr => ∃ (q : Nat) (ro : Option Addr) (rc : Nat), q ≤ n ∧ v3 = .slice ro (runsL (l.take q)).length rc ∧ v17 = .int .i64 (q : Int) ∧ Bl w wr ∧ wr.ownsRow w.heap.size 67 4 (.slice ro (runsL (l.take q)).length rc) (runsL (l.take q)).length (rCells (runsL (l.take q))) ∧ (runsL (l.take q) = [] → ro = none ∧ rc = 0)) (fun _ v17 _ => n - (intOf v17).toNat)
  case atStart => exact ⟨0, none, 0, Nat.zero_le _, rfl, rfl, Bl.refl w, World.ownsRow_nil _ _ _ _, fun _ => ⟨rfl, rfl⟩⟩
  case round =>
    obtain ⟨q, ro, rc, hq, rfl, rfl, hbr, hown, hnil⟩ := hrel
    by_cases hqn : q < n
    · obtain ⟨p, hp⟩ : ∃ p, l[q]? = some p := ⟨_, List.getElem?_eq_getElem (by omega)⟩
      obtain ⟨pb, po, z, rfl, hz, hpv⟩ := (hP.bl hbr).get q p hp
      have htk := runsL_take hp
      have i0 : (0 : Int) ≤ (q : Int) := Int.natCast_nonneg _
      have i1 : (q : Int) < (n : Int) := by omega
      obtain ⟨R, hR⟩ : ∃ R, runsL (l.take q) = R := ⟨_, rfl⟩
      have hRl : R.length ≤ 100000 := by
        rw [← hR]
        have h1 : (runsL (l.take q)).length ≤ (l.take q).length := runsL_len _
        simp at h1; omega
      rw [hR] at hown hnil htk
      simp only [hR]
      cases p with
      | node k s t f =>
        obtain ⟨v, rfl, _⟩ := hpv
        simp only [runsL, List.append_nil] at htk
        go_wp2_with fail
        go_roundw
        case rel => exact ⟨q + 1, ro, rc, by omega, by rw [htk], by go_num, hbr.alloc _, by rw [htk]; exact hown.alloc _, by rw [htk]; exact hnil⟩
        case measure => simp [intOf]; omega
      | op img live at_ =>
        obtain ⟨ob, rfl, _⟩ := hpv
        simp only [runsL, List.append_nil] at htk
        go_wp2_with fail
        go_roundw
        case rel => exact ⟨q + 1, ro, rc, by omega, by rw [htk], by go_num, hbr.alloc _, by rw [htk]; exact hown.alloc _, by rw [htk]; exact hnil⟩
        case measure => simp [intOf]; omega
      | run r =>
        obtain rfl := hpv
        simp only [runsL] at htk
        go_wp2_with (at_builtin; go_loud (refine wpList_append_lies _ rfl _ _ 63 rfl w.heap.size 67 ir _ 4 24 Tryz.underlying63 hir hrz hrs hrb rfl (by omega) (.slice ro R.length rc) R.length _ rfl ((hown.alloc _).alloc _) ⟨wr.heap.size + 1, 0, none⟩ 1 1 [.int .u8 (r.c.toNat : Int), .int .i64 (r.n : Int), .bool r.o, .bool r.cl] rfl rfl (World.news_of_block (cs := #[.int .u8 (r.c.toNat : Int), .int .i64 (r.n : Int), .bool r.o, .bool r.cl]) (t := 67) (fr := (0, 0)) (new2 wr _ _)) (by simp [Value.oneCell']) (by omega) (by unfold maxLen; omega) (by omega) (by have := hbr.size; simp; omega) (wr.heap.size + 1 + 1) (by simp) ?_; intro og ocap w7 hown7 hgrow7 hat7 hlt7))
        have hb7 : Bl w w7 := ((hbr.alloc _).alloc _).grown hgrow7 (fun b hb => (hown.lt b hb).1)
        have hl7 : (R ++ [r]).length = R.length + 1 := by simp
        refine ⟨⟨q + 1, some ⟨og, 0, none⟩, ocap, by omega, by rw [htk, hl7], by go_num, hb7, by rw [htk, rCells_snoc, hl7]; exact hown7, by rw [htk]; simp⟩, ?_⟩
        simp [intOf]
        omega
    · obtain rfl : q = n := by omega
      rw [List.take_of_length_le (by omega)] at hown hnil
      have hRl : (runsL l).length ≤ 100000 := by
        have h1 := runsL_len l
        omega
      have hUS : ∀ W, Bl wr W → Calls Tryz.prog 40 #[.slice ro (runsL l).length rc] W fun e w' => ∃ v, e = .returned v ∧ UsAt w' v (usageL (runsL l)) ∧ Bl W w' := by
        intro W hW
        by_cases h0 : runsL l = []
        · obtain ⟨rfl, rfl⟩ := hnil h0
          rw [h0]
          refine (usage_nil W).mono ?_
          rintro e w' ⟨so', n', c', rfl, hb⟩
          exact ⟨_, rfl, UsAt.nil _ _ _ _, hb⟩
        · have hpos : 0 < (runsL l).length := List.length_pos_iff.2 h0
          obtain ⟨g, cap, hv, _, _⟩ := hown.form hpos
          cases hv
          refine (usage_any W g 0 _ (runsL l).length (runsL l) ((Rns.of_row hown rfl).bl hW) rfl hpos (by omega) (fun r hr => by have := wgt_run l r (mem_runsL l r hr); omega)).mono ?_
          rintro e w' ⟨ub, v, rfl, hU, hb⟩
          exact ⟨_, rfl, UsAt.of hU rfl, hb⟩
      clear hown
      have htl : l.take q = l := List.take_of_length_le (by omega)
      simp only [htl]
      go_wp2_with fail
      refine (hUS wr (Bl.refl wr)).mono ?_
      rintro e w5 ⟨v8, rfl, hU5, hb5⟩
      have hb5w := hbr.trans hb5
      obtain ⟨so8, n8, c8, rfl⟩ := hU5.form
      dsimp only
      clear hUS
      go_wp2_with (at_make; go_loud (refine wpList_make_full w5 rfl _ _ _ rfl w5.heap.size 27 iq _ 7 Tryz.underlying24 hiq hqz hqs .i64 .i64 (1 : Int) (1 : Int) 1 rfl rfl rfl rfl hq2 hq3 (Nat.le_refl _) ?_; intro w6 hown6 hgrow6))
      have hB7 := bds_first hown6 hgrow6
      obtain ⟨bb, hbb⟩ : ∃ bb, w6.heap.size = bb := ⟨_, rfl⟩
      obtain ⟨w7, hw7⟩ : ∃ w7, w6.alloc (.cells #[.slice (some ⟨w5.heap.size, 0, none⟩) 1 1] 75) = w7 := ⟨_, rfl⟩
      rw [hw7, hbb] at hB7 ⊢
      clear hw7 hbb hown6 hgrow6
      go_loopw [8, 40] (fun v8 v40 wr => ∃ (j g : Nat) (st : Os) (us : List Us), j ≤ q ∧ UsAt w5 v8 us ∧ v40 = .int .i64 (j : Int) ∧ BdS w5 wr bb g st ∧ Hid (buildL (l.drop j) us (bsOf st) = FIN) ∧ Deep (l.drop j) us st.length ∧ bsSz (bsOf st) + wgt (l.drop j) ≤ 100001 ∧ Hid (us = (usageL (runsL l)).drop (runsL (l.take j)).length)) (fun _ v _ => q - (intOf v).toNat)
      case atStart => exact ⟨0, _, _, _, Nat.zero_le _, hU5, rfl, hB7, hFIN, hdeep, by simp [bsOf, bsSz, Fo.len]; omega, Lib.hid rfl⟩
      case round =>
        obtain ⟨j, g, st, us, hj, hUr, rfl, hB, hfin, hdp, hsz, hus⟩ := hrel
        obtain ⟨so9, n9, c9, rfl⟩ := hUr.form
        have hbw := hb5w.trans hB.bl
        by_cases hjn : j < q
        · obtain ⟨p, hp⟩ : ∃ p, l[j]? = some p := ⟨_, List.getElem?_eq_getElem (by omega)⟩
          obtain ⟨pb, po, z, rfl, hz5, hpv⟩ := (hP.bl hb5w).get j p hp
          have hz := hB.bl.cell hz5
          have htk := runsL_take hp
          have hdr : l.drop j = p :: l.drop (j + 1) := by rw [List.drop_eq_getElem_cons (by omega)]; congr 1; have := List.getElem?_eq_getElem (l := l) (i := j) (by omega); rw [hp] at this; exact (Option.some.inj this).symm
          rw [hdr] at hfin hdp hsz
          have i0 : (0 : Int) ≤ (j : Int) := Int.natCast_nonneg _
          have i1 : (j : Int) < (q : Int) := by omega
          have hsl := bsSz_len (bsOf st)
          rw [bsOf_length] at hsl
          cases p with
          | node k s t f =>
            obtain ⟨v, rfl, hrep⟩ := hpv
            obtain ⟨ao, c0, rfl⟩ := hrep.slice
            simp only [runsL, List.append_nil] at htk
            obtain ⟨hd1, hd2⟩ := hdp
            obtain ⟨⟨k0, f0, v0⟩, r0, rfl⟩ : ∃ x r, st = x :: r := by
              cases st with
              | nil => simp at hd1
              | cons x r => exact ⟨x, r, rfl⟩
            have hfr := hB.far (Bl.refl w5) ((Bl.refl wr).alloc (.cells #[.int .i64 (k : Int), .string (mkB s), .string (mkB t), .int .i64 0, .int .i64 0, .bool false, .slice ao f.len c0] 77)) hrep
            have hBa := hB.more ((Bl.refl wr).alloc (.cells #[.int .i64 (k : Int), .string (mkB s), .string (mkB t), .int .i64 0, .int .i64 0, .bool false, .slice ao f.len c0] 77))
            have hw1 : wgt (Pc.node k s t f :: l.drop (j + 1)) = 1 + wgt (l.drop (j + 1)) := rfl
            rw [hw1] at hsz
            have hs0 : bsSz (bsOf ((k0, f0, v0) :: r0)) = f0.len + 1 + bsSz (bsOf r0) := by simp [bsOf, bsSz]
            have hs1 := bsSz_len (bsOf r0)
            rw [bsOf_length] at hs1
            have hAD := badd_any w5 _ bb g k0 f0 v0 r0 hBa k s t (.slice ao f.len c0) f hfr (by omega) (by omega)
            have hfin' := Lib.hid (show buildL (l.drop (j + 1)) us (bsOf ((k0, f0.snoc k s t f, v0) :: r0)) = FIN from hfin.out)
            clear hfin
            go_wp2_with fail
            refine hAD.mono ?_
            rintro e wA ⟨rfl, ⟨v1, hB1⟩, hO1⟩
            dsimp only
            go_wp2_with fail
            go_roundw
            case rel =>
              refine ⟨j + 1, g, _, us, by omega, hUr, by go_num, hB1, hfin', hd2, ?_, Lib.hid (by rw [htk]; exact hus.out)⟩
              have h1 : bsSz (bsOf ((k0, f0.snoc k s t f, v1) :: r0)) = f0.len + 1 + 1 + bsSz (bsOf r0) := by simp [bsOf, bsSz, Fo.len_snoc]
              omega
            case measure => simp [intOf]; omega
          | op img live at_ =>
            obtain ⟨ob, rfl, hob⟩ := hpv
            simp only [runsL, List.append_nil] at htk
            obtain ⟨hd1, hd2⟩ := hdp
            obtain ⟨⟨k0, f0, v0⟩, r0, rfl⟩ : ∃ x r, st = x :: r := by
              cases st with
              | nil => simp at hd1
              | cons x r => exact ⟨x, r, rfl⟩
            have hw1 : wgt (Pc.op img live at_ :: l.drop (j + 1)) = 1 + wgt (l.drop (j + 1)) := rfl
            rw [hw1] at hsz
            have hs0 : bsSz (bsOf ((k0, f0, v0) :: r0)) = f0.len + 1 + bsSz (bsOf r0) := by simp [bsOf, bsSz]
            have hs1 := bsSz_len (bsOf r0)
            rw [bsOf_length] at hs1
            have hfin' := Lib.hid (show buildL (l.drop (j + 1)) us (bsOf ((k0, f0.snoc 14 (opS img) [] .nil, v0) :: r0)) = FIN from hfin.out)
            have o0 : wr.cell? ⟨ob, 0, none⟩ = some (.string (mkB (opS img))) := by rw [Lib.cell_of_heap ((hB.bl.block (heap_lt hob)).trans hob)]; rfl
            clear hfin
            go_wp2_with fail
            refine (text_any (opS img) _).mono ?_
            rintro e wT ⟨rfl, hbT⟩
            dsimp only
            have hBa := hB.more hbT
            have hAD := badd_any w5 wT bb g k0 f0 v0 r0 hBa 14 (opS img) [] (.slice none 0 0) .nil (Rep.nil _ _) (by omega) (by omega)
            go_wp2_with fail
            refine hAD.mono ?_
            rintro e wA ⟨rfl, ⟨v1, hB1⟩, hO1⟩
            dsimp only
            go_wp2_with fail
            go_roundw
            case rel =>
              refine ⟨j + 1, g, _, us, by omega, hUr, by go_num, hB1, hfin', hd2, ?_, Lib.hid (by rw [htk]; exact hus.out)⟩
              have h1 : bsSz (bsOf ((k0, f0.snoc 14 (opS img) [] .nil, v1) :: r0)) = f0.len + 1 + 1 + bsSz (bsOf r0) := by simp [bsOf, bsSz, Fo.len_snoc]
              omega
            case measure => simp [intOf]; omega
          | run r =>
            obtain rfl := hpv
            simp only [runsL] at htk
            obtain ⟨u, us', rfl, hd1, hd2, hd3, hd4⟩ := hdp
            have hrm : Pc.run r ∈ l := List.mem_of_getElem? hp
            have hrw := wgt_run l r hrm
            have hrc := hc r hrm
            have hw1 : wgt (Pc.run r :: l.drop (j + 1)) = r.n + 1 + wgt (l.drop (j + 1)) := rfl
            rw [hw1] at hsz
            have hug : (usageL (runsL l))[(runsL (l.take j)).length]? = some u := by
              have h1 := hus.out
              have h2 : ((usageL (runsL l)).drop (runsL (l.take j)).length)[0]? = some u := by rw [← h1]; rfl
              rw [List.getElem?_drop] at h2
              simpa using h2
            have hrg : (runsL l)[(runsL (l.take j)).length]? = some r := by
              have h1 : runsL l = runsL (l.take j) ++ runsL (l.drop j) := by rw [← runsL_app, List.take_append_drop]
              rw [h1, hdr, List.getElem?_append_right (Nat.le_refl _)]
              simp [runsL]
            have huo := usage_opens hrg hug
            have hus' := Lib.hid (show us' = (usageL (runsL l)).drop (runsL (l.take (j + 1))).length by
              have h1 := hus.out
              rw [htk]
              have h2 : (runsL (l.take j) ++ [r]).length = (runsL (l.take j)).length + 1 := by simp
              rw [h2, ← List.drop_drop, ← h1]; rfl)
            have hfin' := Lib.hid (show buildL (l.drop (j + 1)) us' (Bs.runL (bsOf st) r u) = FIN from hfin.out)
            have hsr := runL_size (bsOf st) r u
            have hlr := runL_length (bsOf st) r u
            rw [bsOf_length] at hlr
            obtain ⟨ub, uo, uc, hv9, huc, hua⟩ := hUr.at_ (by simp)
            cases hv9
            obtain ⟨sv, ob, u0, u1, u2, u3⟩ := hua 0 u rfl
            have hus2 : UsAt w5 (.slice (some ⟨ub, uo + 3, none⟩) us'.length (c9 - 1)) us' := by
              refine ⟨⟨_, _, _, rfl⟩, fun _ => ⟨ub, uo + 3, c9 - 1, rfl, by simp at huc; omega, fun i x hi => ?_⟩⟩
              obtain ⟨sv', ob', g0, g1, g2, g3⟩ := hua (i + 1) x (by simpa using hi)
              refine ⟨sv', ob', ?_, ?_, ?_, g3⟩
              · rw [← g0]; congr 2; omega
              · rw [← g1]; congr 2; omega
              · rw [← g2]; congr 2; omega
            obtain ⟨uso, usl, usc, rfl⟩ : ∃ uso usl usc, sv = .slice uso usl usc := by
              rcases u3 with ⟨rfl, _⟩ | ⟨off, cap, rfl, _⟩
              · exact ⟨_, _, _, rfl⟩
              · exact ⟨_, _, _, rfl⟩
            have y0 := hB.bl.cell u0
            have y1 := hB.bl.cell u1
            have y2 := hB.bl.cell u2
            clear hfin hus hua
            rw [List.length_cons] at huc
            obtain ⟨ul, hul⟩ : ∃ ul, us'.length = ul := ⟨_, rfl⟩
            rw [hul] at huc hus2
            rw [show (u :: us').length = ul + 1 by rw [List.length_cons, hul]]
            have hublt : ub < wr.heap.size := World.block_lt_of_cell? wr _ y0
            simp only [Nat.zero_mul, Nat.add_zero] at y0 y1 y2
            have hBl : Bl wr (wr.alloc (.cells #[.int .u8 (r.c.toNat : Int), .int .i64 (r.n : Int), .bool r.o, .bool r.cl] 69)).drew := ((Bl.refl wr).alloc _).drew
            have hBR := brun_any w5 _ bb g st (hB.more hBl) r u (.slice uso usl usc) ob hd1 (by omega) (by omega) hd2 hd3 hrc (by omega) u3
            go_upto_region 23 with fail
            have hX0 := heap_alloc_new wr (.cells #[.int .u8 (r.c.toNat : Int), .int .i64 (r.n : Int), .bool r.o, .bool r.cl] 69)
            obtain ⟨rb, hrb⟩ : ∃ rb, wr.heap.size = rb := ⟨_, rfl⟩
            obtain ⟨wx, hwx⟩ : ∃ wx, wr.alloc (.cells #[.int .u8 (r.c.toNat : Int), .int .i64 (r.n : Int), .bool r.o, .bool r.cl] 69) = wx := ⟨_, rfl⟩
            rw [hwx] at hX0 hBl hBR ⊢
            rw [hrb] at hX0 ⊢
            clear hwx hrb
            have x0 : wx.cell? ⟨rb, 0, none⟩ = some (.int .u8 (r.c.toNat : Int)) := by rw [Lib.cell_of_heap hX0]; rfl
            have x1 : wx.cell? ⟨rb, 1, none⟩ = some (.int .i64 (r.n : Int)) := by rw [Lib.cell_of_heap hX0]; rfl
            have x2 : wx.cell? ⟨rb, 2, none⟩ = some (.bool r.o) := by rw [Lib.cell_of_heap hX0]; rfl
            have x3 : wx.cell? ⟨rb, 3, none⟩ = some (.bool r.cl) := by rw [Lib.cell_of_heap hX0]; rfl
            have z0 : wx.cell? ⟨ub, uo, none⟩ = some (.int .i64 (u.closes : Int)) := hBl.cell y0
            have z1 : wx.cell? ⟨ub, uo + 1, none⟩ = some (.slice uso usl usc) := hBl.cell y1
            have z2 : wx.cell? ⟨ub, uo + 2, none⟩ = some (.int .i64 u.left) := hBl.cell y2
            have hHeld : (fun w' : World => w'.cell? ⟨rb, 0, none⟩ = some (.int .u8 (r.c.toNat : Int)) ∧ w'.cell? ⟨rb, 1, none⟩ = some (.int .i64 (r.n : Int)) ∧ w'.cell? ⟨rb, 2, none⟩ = some (.bool r.o) ∧ w'.cell? ⟨rb, 3, none⟩ = some (.bool r.cl) ∧ w'.cell? ⟨ub, uo, none⟩ = some (.int .i64 (u.closes : Int)) ∧ w'.cell? ⟨ub, uo + 1, none⟩ = some (.slice uso usl usc) ∧ w'.cell? ⟨ub, uo + 2, none⟩ = some (.int .i64 u.left)) wx.drew := ⟨x0, x1, x2, x3, z0, z1, z2⟩
            refine wp_region_n (fun w' : World => w'.cell? ⟨rb, 0, none⟩ = some (.int .u8 (r.c.toNat : Int)) ∧ w'.cell? ⟨rb, 1, none⟩ = some (.int .i64 (r.n : Int)) ∧ w'.cell? ⟨rb, 2, none⟩ = some (.bool r.o) ∧ w'.cell? ⟨rb, 3, none⟩ = some (.bool r.cl) ∧ w'.cell? ⟨ub, uo, none⟩ = some (.int .i64 (u.closes : Int)) ∧ w'.cell? ⟨ub, uo + 1, none⟩ = some (.slice uso usl usc) ∧ w'.cell? ⟨ub, uo + 2, none⟩ = some (.int .i64 u.left)) [0, 1, 2, 3, 4, 5] (by kernel_rfl) ?_
            refine wpAnyN_take (i := 0) (v := ?rv1) rfl (by kernel_rfl) (by kernel_rfl) (by kernel_rfl) (by kernel_rfl) (by kernel_rfl) (fun _ _ _ h => h) (Or.inl ⟨by rfl, ?rh1⟩) hHeld ?_
            case rh1 => (intro w hSw; (try dsimp only at hSw); go_simp; try with_reducible rfl)
            refine wpAnyN_take (i := 1) (v := ?rv2) rfl (by kernel_rfl) (by kernel_rfl) (by kernel_rfl) (by kernel_rfl) (by kernel_rfl) (fun _ _ _ h => h) (Or.inl ⟨by rfl, ?rh2⟩) hHeld ?_
            case rh2 => (intro w hSw; (try dsimp only at hSw); go_simp; try with_reducible rfl)
            refine wpAnyN_take (i := 2) (v := ?rv3) rfl (by kernel_rfl) (by kernel_rfl) (by kernel_rfl) (by kernel_rfl) (by kernel_rfl) (fun _ _ _ h => h) (Or.inl ⟨by rfl, ?rh3⟩) hHeld ?_
            case rh3 => (intro w hSw; (try dsimp only at hSw); go_simp; try with_reducible rfl)
            refine wpAnyN_take (i := 3) (v := ?rv4) rfl (by kernel_rfl) (by kernel_rfl) (by kernel_rfl) (by kernel_rfl) (by kernel_rfl) (fun _ _ _ h => h) (Or.inl ⟨by rfl, ?rh4⟩) hHeld ?_
            case rh4 => (intro w hSw; (try dsimp only at hSw); go_simp; try with_reducible rfl)
            refine wpAnyN_take (i := 4) (v := ?rv5) rfl (by kernel_rfl) (by kernel_rfl) (by kernel_rfl) (by kernel_rfl) (by kernel_rfl) (fun _ _ _ h => h) (Or.inl ⟨by rfl, ?rh5⟩) hHeld ?_
            case rh5 => (intro w hSw; (try dsimp only at hSw); go_simp; try with_reducible rfl)
            refine wpAnyN_take (i := 5) (v := ?rv6) rfl (by kernel_rfl) (by kernel_rfl) (by kernel_rfl) (by kernel_rfl) (by kernel_rfl) (fun _ _ _ h => h) (Or.inl ⟨by rfl, ?rh6⟩) hHeld ?_
            case rh6 => (intro w hSw; (try dsimp only at hSw); go_simp; try with_reducible rfl)
            refine wpAnyN_ready (rs := [6]) (by kernel_rfl) (by simp) ?_
            refine AllN.cons rfl (fun K rK7 => ?_) ?_
            · go_simp
              refine hBR.mono ?_
              rintro e wA ⟨rfl, g', st', hbs, hB1, hO1⟩
              dsimp only
              refine rK7.out _ _ (not_early (by kernel_rfl)) ?_
              clear rK7 K
              refine wpAnyN_done (by kernel_rfl) ?_ _
              go_wp2_with fail
              go_roundw
              case rel =>
                have hus3 : UsAt w5 (.slice (if c9 = 1 then some ⟨ub, uo, none⟩ else some ⟨ub, uo + 3, none⟩) ul (c9 - 1)) us' := by
                  by_cases h1 : c9 = 1
                  · have h2 : us' = [] := List.length_eq_zero_iff.1 (by omega)
                    rw [h2]; exact UsAt.nil _ _ _ _
                  · rw [if_neg h1]; exact hus2
                have hl1 : st'.length = (Bs.runL (bsOf st) r u).length := by rw [← hbs, bsOf_length]
                refine ⟨j + 1, g', st', us', by omega, hus3, by go_num, hB1, Lib.hid (by rw [hbs]; exact hfin'.out), ?_, ?_, hus'⟩
                · rw [hl1, hlr]; exact hd4
                · rw [hbs]; omega
              case measure => simp [intOf]; omega
            exact AllN.nil
        · obtain rfl : j = q := by omega
          rw [List.drop_of_length_le (by omega)] at hfin hdp
          have hne : st ≠ [] := by
            intro e
            rw [e] at hdp
            simp [Deep] at hdp
          obtain ⟨capx, v, k, f, c1, c2, hla, hrp⟩ := hB.first hne
          have hfl : bsOf st = FIN := hfin.out
          rw [hfl] at hla
          have hpos : 0 < st.length := List.length_pos_iff.2 hne
          obtain ⟨stl, hstl⟩ : ∃ stl, st.length = stl := ⟨_, rfl⟩
          rw [hstl] at c1 hpos
          have hla := Lib.hid hla
          have hi1 : (0 : Int) < (stl : Int) := by omega
          clear hfl hdp hsz hstl
          go_wp2_with fail
          go_ret
          exact ⟨v, rfl, by rw [hla.out]; exact hrp, hbw⟩
end Go.Proofs.YtjocbifjmchbcaaGreatDoor
/- Contracts of the small functions of class and of closures that span uses. -/
namespace Go.Proofs.YtjocbifjmchbcaaGreatDoor
open Go.RowKit

/-- A letter, of a byte's number. -/
def letterI (n : Int) : Bool := (decide (97 ≤ n) && decide (n ≤ 122)) || (decide (65 ≤ n) && decide (n ≤ 90))
/-- A digit, of a byte's number. -/
def digitI (n : Int) : Bool := decide (48 ≤ n) && decide (n ≤ 57)

theorem letter_bits : ∀ m : Fin 256, (decide (97 ≤ Go.bits .or .u8 (m.val : Int) 32) && decide (Go.bits .or .u8 (m.val : Int) 32 ≤ 122)) = letterI (m.val : Int) := by decide +kernel
theorem letter_bitsI (n : Int) (h0 : 0 ≤ n) (h1 : n < 256) : (decide (97 ≤ Go.bits .or .u8 n 32) && decide (Go.bits .or .u8 n 32 ≤ 122)) = letterI n := by
  obtain ⟨m, rfl⟩ := Int.eq_ofNat_of_zero_le h0
  exact letter_bits ⟨m, by omega⟩

set_option maxHeartbeats 400000 in
theorem letter_any (n : Int) (h0 : 0 ≤ n) (h1 : n < 256) (w : World) :
    Calls Tryz.prog 112 #[.int .u8 n] w fun e w' => e = .returned (.bool (letterI n)) ∧ w = w' := by
  rw [← letter_bitsI n h0 h1]
  by_cases c : 97 ≤ Go.bits .or .u8 n 32
  · have cb : decide (97 ≤ Go.bits .or .u8 n 32) = true := decide_eq_true c
    clear c
    go_enter Tryz.func112, Tryz.ntmps112
    go_wp2
    go_ret
    exact ⟨by first | (rw [cb, Bool.true_and]; rfl) | (rw [cb, Bool.false_and]; rfl), rfl⟩
  · have cb : decide (97 ≤ Go.bits .or .u8 n 32) = false := decide_eq_false c
    clear c
    go_enter Tryz.func112, Tryz.ntmps112
    go_wp2
    go_ret
    exact ⟨by first | (rw [cb, Bool.true_and]; rfl) | (rw [cb, Bool.false_and]; rfl), rfl⟩

set_option maxHeartbeats 400000 in
theorem digit_any (n : Int) (w : World) :
    Calls Tryz.prog 161 #[.int .u8 n] w fun e w' => e = .returned (.bool (digitI n)) ∧ w = w' := by
  unfold digitI
  by_cases c : 48 ≤ n
  · have cb : decide (48 ≤ n) = true := decide_eq_true c
    clear c
    go_enter Tryz.func161, Tryz.ntmps161
    go_wp2
    go_ret
    exact ⟨by first | (rw [cb, Bool.true_and]; rfl) | (rw [cb, Bool.false_and]; rfl), rfl⟩
  · have cb : decide (48 ≤ n) = false := decide_eq_false c
    clear c
    go_enter Tryz.func161, Tryz.ntmps161
    go_wp2
    go_ret
    exact ⟨by first | (rw [cb, Bool.true_and]; rfl) | (rw [cb, Bool.false_and]; rfl), rfl⟩

end Go.Proofs.YtjocbifjmchbcaaGreatDoor
/- Contracts of span.word, its closure, address's closure, and span.all at any closure that only reads. -/
namespace Go.Proofs.YtjocbifjmchbcaaGreatDoor
open Go.RowKit

/-- What a closure of span.word says of a byte. -/
def wordB (more : List UInt8) (b : UInt8) : Bool := letterI (b.toNat : Int) || digitI (b.toNat : Int) || more.contains b

theorem indexByte_ge (l : List UInt8) (c : UInt8) : decide (0 ≤ Lib.indexByte l c) = l.contains c := by
  induction l with
  | nil => rfl
  | cons b l ih =>
    have hge := Lib.indexByte_ge l c
    rw [List.contains_cons, ← ih, Lib.indexByte]
    by_cases hb : b = c
    · subst hb; simp
    · have h1 : (b == c) = false := by simpa using hb
      have h2 : (c == b) = false := by simpa using fun h => hb h.symm
      rw [h1, h2]
      simp
      by_cases h3 : Lib.indexByte l c = -1
      · simp [h3]
      · simp [h3]; omega

abbrev encB (b : UInt8) : Value := .int .u8 (b.toNat : Int)

set_option maxHeartbeats 400000 in
theorem word_fn (more : ByteArray) (a : Addr) (b : UInt8) (w : World) (hc : w.cell? a = some (.string more)) :
    Calls Tryz.prog 231 #[encB b, .pointer (some a)] w fun e w' => e = .returned (.bool (wordB more.data.toList b)) ∧ w = w' := by
  unfold encB wordB
  rw [← indexByte_ge]
  have h0 : (0 : Int) ≤ (b.toNat : Int) := by omega
  have h1 : (b.toNat : Int) < 256 := by have := b.toNat_lt; omega
  have e1 : ((b.toNat : Int)).toNat.toUInt8 = b := by simp
  cases hl : letterI (b.toNat : Int) with
  | true =>
    go_enter Tryz.func231, Tryz.ntmps231
    go_wp2_with (first | (go_at_call 112; (with_reducible refine (letter_any _ h0 h1 _).mono ?_); rintro e w' ⟨rfl, rfl⟩))
    go_ret
    exact ⟨rfl, rfl⟩
  | false =>
    cases hd : digitI (b.toNat : Int) with
    | true =>
      go_enter Tryz.func231, Tryz.ntmps231
      go_wp2_with (first | (go_at_call 112; (with_reducible refine (letter_any _ h0 h1 _).mono ?_); rintro e w' ⟨rfl, rfl⟩) | (go_at_call 161; (with_reducible refine (digit_any _ _).mono ?_); rintro e w' ⟨rfl, rfl⟩))
      go_ret
      exact ⟨rfl, rfl⟩
    | false =>
      go_enter Tryz.func231, Tryz.ntmps231
      go_wp2_with (first | (go_at_call 112; (with_reducible refine (letter_any _ h0 h1 _).mono ?_); rintro e w' ⟨rfl, rfl⟩) | (go_at_call 161; (with_reducible refine (digit_any _ _).mono ?_); rintro e w' ⟨rfl, rfl⟩) | (go_at_call 107; (with_reducible refine (Tryz.strings_IndexByte _ _ _).mono ?_); rintro e w' ⟨rfl, rfl⟩))
      go_ret
      exact ⟨by simp, rfl⟩

set_option maxHeartbeats 400000 in
theorem word_any (more : ByteArray) (w : World) :
    Calls Tryz.prog 167 #[.string more] w fun e w' =>
      e = .returned (.func (.func 231) #[] #[.pointer (some ⟨w.heap.size, 0, none⟩)]) ∧ w' = w.alloc (.cells #[.string more] 9) := by
  go_enter Tryz.func167, Tryz.ntmps167
  go_wp2
  go_ret
  exact ⟨rfl, rfl⟩

/-- What address's closure says of a byte. -/
def restB (b : UInt8) : Bool := decide (32 < (b.toNat : Int)) && decide ((b.toNat : Int) ≠ 127) && decide ((b.toNat : Int) ≠ 60) && decide ((b.toNat : Int) ≠ 62)

set_option maxHeartbeats 400000 in
theorem rest_fn (b : UInt8) (w : World) :
    Calls Tryz.prog 168 #[encB b] w fun e w' => e = .returned (.bool (restB b)) ∧ w = w' := by
  unfold encB restB
  have h0 : (0 : Int) ≤ (b.toNat : Int) := by omega
  have h1 : (b.toNat : Int) < 256 := by have := b.toNat_lt; omega
  generalize (b.toNat : Int) = n at *
  by_cases c1 : 32 < n
  · have d1 : decide (32 < n) = true := decide_eq_true c1
    by_cases c2 : n = 127
    · subst c2; go_enter Tryz.func168, Tryz.ntmps168; go_wp2; go_ret; exact ⟨rfl, rfl⟩
    · by_cases c3 : n = 60
      · subst c3; go_enter Tryz.func168, Tryz.ntmps168; go_wp2; go_ret; exact ⟨rfl, rfl⟩
      · by_cases c4 : n = 62
        · subst c4; go_enter Tryz.func168, Tryz.ntmps168; go_wp2; go_ret; exact ⟨rfl, rfl⟩
        · have e2 : (n != 127) = true := by simpa using c2
          have e3 : (n != 60) = true := by simpa using c3
          have e4 : (n != 62) = true := by simpa using c4
          have g2 : decide (n ≠ 127) = true := by simpa using c2
          have g3 : decide (n ≠ 60) = true := by simpa using c3
          have g4 : decide (n ≠ 62) = true := by simpa using c4
          rw [g2, g3, g4]
          clear c1 c2 c3 c4 g2 g3 g4
          go_enter Tryz.func168, Tryz.ntmps168; go_wp2; go_ret; exact ⟨by simp [d1], rfl⟩
  · have d1 : decide (32 < n) = false := decide_eq_false c1
    rw [d1]
    clear c1
    go_enter Tryz.func168, Tryz.ntmps168; go_wp2; go_ret; exact ⟨rfl, rfl⟩

/-- At every byte, in every world that has grown out of w, function g with what it captured tells p of the byte, and turns nothing. -/
structure FnB (g : Nat) (lb : Array Value) (p : UInt8 → Bool) (w : World) : Prop where
  mk :: (out : ∀ (W : World) (b : UInt8), Bl w W → Calls Tryz.prog g (#[encB b] ++ lb) W fun e w' => e = .returned (.bool (p b)) ∧ W = w')
theorem FnB.later {g : Nat} {lb : Array Value} {p : UInt8 → Bool} {w W : World} (h : FnB g lb p w) (k : Bl w W) : FnB g lb p W :=
  ⟨fun W' b hb => h.out W' b (k.trans hb)⟩
theorem fnB_word (more : ByteArray) (a : Addr) (w : World) (hc : w.cell? a = some (.string more)) : FnB 231 #[.pointer (some a)] (wordB more.data.toList) w :=
  ⟨fun W b hb => word_fn more a b W (hb.cell hc)⟩
theorem fnB_rest (w : World) : FnB 168 #[] restB w := ⟨fun W b _ => rest_fn b W⟩

def allL (l : List UInt8) (p : UInt8 → Bool) : Bool := l.all p
theorem take_succ_all (s : ByteArray) (p : UInt8 → Bool) (k : Nat) (h : k < s.size) : (s.data.toList.take (k + 1)).all p = ((s.data.toList.take k).all p && p s[k]) := by
  rw [List.take_succ_eq_append_getElem (by simpa using h), List.all_append]
  simp; rfl
theorem all_false (s : ByteArray) (p : UInt8 → Bool) (k : Nat) (h : k < s.size) (hb : p s[k] = false) : allL s.data.toList p = false := by
  unfold allL
  rw [List.all_eq_false]
  exact ⟨s[k], by rw [← Array.mem_def]; exact Array.getElem_mem (by simpa using h), by simp [hb]⟩
set_option maxHeartbeats 400000 in
theorem all_any (s : ByteArray) (g : Nat) (lb : Array Value) (p : UInt8 → Bool) (w : World) (hs : s.size ≤ 140737488351232) (hp : FnB g lb p w)
    (eg : ∀ args w, (callFunc g args).run Tryz.prog w = .ok (.enter g args) w) :
    Calls Tryz.prog 166 #[.string s, .func (.func g) #[] lb] w fun e w' => e = .returned (.bool (allL s.data.toList p)) ∧ w = w' := by
  go_enter Tryz.func166, Tryz.ntmps166
  go_wp2
  go_loop [8] (fun i => ∃ k : Nat, k ≤ s.size ∧ i = .int .i64 k ∧ Hid ((s.data.toList.take k).all p = true)) (fun i => s.size - (intOf i).toNat)
  case atStart => exact ⟨0, Nat.zero_le _, rfl, Lib.hid (by simp)⟩
  case round =>
    obtain ⟨k, hk, rfl, hall⟩ := hrel
    by_cases hlt : k < s.size
    · have hf := hp.out w s[k] (Bl.refl w)
      have H := Lib.hid (take_succ_all s p k hlt)
      cases hb : p s[k] with
      | true =>
        go_wp2_with (first | (go_at_fn g; (with_reducible refine hf.mono ?_); rintro e w' ⟨rfl, rfl⟩))
        go_round
        case rel => exact ⟨k + 1, by omega, by go_num, Lib.hid (by rw [H.out, hall.out, hb]; rfl)⟩
        case measure => simp [intOf]; omega
      | false =>
        go_wp2_with (first | (go_at_fn g; (with_reducible refine hf.mono ?_); rintro e w' ⟨rfl, rfl⟩))
        go_ret
        exact ⟨ret_bool (all_false s p k hlt hb).symm, rfl⟩
    · go_wp2
      go_ret
      refine ⟨ret_bool ?_, rfl⟩
      have := hall.out
      rw [List.take_of_length_le (by simp; omega)] at this
      exact this.symm

end Go.Proofs.YtjocbifjmchbcaaGreatDoor
/- Contracts of span.part. -/
namespace Go.Proofs.YtjocbifjmchbcaaGreatDoor
open Go.RowKit

theorem toList_eq (s : ByteArray) : s.toList = s.data.toList := ByteArray.toList_eq s
theorem isEmpty_false {s : ByteArray} (h : 0 < s.size) : s.toList.isEmpty = false := by
  rw [toList_eq, List.isEmpty_eq_false_iff]
  intro e
  have h2 : s.data.toList.length = 0 := by rw [e]; rfl
  have h3 : s.size = s.data.toList.length := by simp
  omega
theorem data_isEmpty_false {s : ByteArray} (h : 0 < s.size) : s.data.toList.isEmpty = false := by
  rw [← toList_eq]; exact isEmpty_false h
theorem str_nil {s : ByteArray} (h : s.size = 0) : s = ⟨#[]⟩ := by
  obtain ⟨⟨l⟩⟩ := s
  have : l = [] := List.eq_nil_of_length_eq_zero h
  rw [this]
theorem headD_at (s : ByteArray) (h : 0 < s.size) : s.data.toList.headD 0 = s[0] := by
  obtain ⟨⟨l⟩⟩ := s
  cases l with
  | nil => exact absurd h (by decide)
  | cons a l => rfl
theorem getLastD_at (s : ByteArray) (h : 0 < s.size) : s.data.toList.getLastD 0 = s[s.size - 1] := by
  obtain ⟨⟨l⟩⟩ := s
  show l.getLastD 0 = l[l.length - 1]'(by have : 0 < l.length := h; omega)
  cases l with
  | nil => exact absurd h (by decide)
  | cons a l => rw [List.getLastD_eq_getLast?, List.getLast?_eq_getElem?, List.getElem?_eq_getElem (by simp)]; rfl
theorem ne_of_byte {b c : UInt8} (n : Int) (hn : (c.toNat : Int) = n) : ((b.toNat : Int) != n) = !(b == c) := by
  subst hn
  by_cases h : b = c
  · subst h; simp
  · have h1 : (b == c) = false := by simpa using h
    rw [h1]
    have h2 : (b.toNat : Int) ≠ (c.toNat : Int) := fun e => h (UInt8.toNat_inj.mp (Int.ofNat.inj e))
    simpa using h2
theorem eq_of_byte {b c : UInt8} (n : Int) (hn : (c.toNat : Int) = n) : ((b.toNat : Int) == n) = (b == c) := by
  have := ne_of_byte (b := b) n hn
  rw [bne] at this
  exact Bool.not_inj this

/-- May a text stand between two dots? -/
def partB (l : List UInt8) : Bool := !l.isEmpty && decide (l.length ≤ 63) && allL l (wordB [45]) && !(l.headD 0 == 45) && !(l.getLastD 0 == 45)

set_option maxHeartbeats 400000 in
theorem part_any (s : ByteArray) (w : World) (hs : s.size ≤ 140737488351232) :
    Calls Tryz.prog 170 #[.string s] w fun e w' => e = .returned (.bool (partB s.data.toList)) ∧ Bl w w' := by
  have eg := enters_of Tryz.func231 (by kernel_rfl) rfl
  have hl : s.data.toList.length = s.size := by simp
  by_cases h0 : s.size = 0
  · obtain rfl := str_nil h0
    go_enter Tryz.func170, Tryz.ntmps170
    go_wp2
    go_ret
    exact ⟨rfl, Bl.refl _⟩
  · have hp : 0 < s.size := by omega
    have E0 := Lib.hid (data_isEmpty_false hp)
    have e1 : s.toList.isEmpty = false := isEmpty_false hp
    have L := Lib.hid hl
    clear hl h0
    by_cases h1 : s.size ≤ 63
    · have e2 : decide ((s.size : Int) ≤ 63) = true := decide_eq_true (by omega)
      have H3 := Lib.hid (ne_of_byte (b := s[0]) (c := 45) 45 rfl)
      have H4 := Lib.hid (ne_of_byte (b := s[s.size - 1]) (c := 45) 45 rfl)
      have G3 := Lib.hid (headD_at s hp)
      have G4 := Lib.hid (getLastD_at s hp)
      cases ha : allL s.data.toList (wordB [45]) with
      | false =>
        go_enter Tryz.func170, Tryz.ntmps170
        go_wp2_with (first | (go_at_call 167; (with_reducible refine (word_any _ _).mono ?_); rintro e w' ⟨rfl, rfl⟩) | (go_at_call 166; (refine (all_any _ _ _ (wordB [45]) _ hs (fnB_word ⟨#[45]⟩ _ _ (by simp)) eg).mono ?_); rintro e w' ⟨rfl, rfl⟩))
        go_ret
        exact ⟨ret_bool (by unfold partB; rw [ha]; simp), (Bl.refl _).alloc _⟩
      | true =>
        cases h3 : ((s[0].toNat : Int) != 45) with
        | true =>
          cases h4 : ((s[s.size - 1].toNat : Int) != 45) with
          | true =>
            go_enter Tryz.func170, Tryz.ntmps170
            go_wp2_with (first | (go_at_call 167; (with_reducible refine (word_any _ _).mono ?_); rintro e w' ⟨rfl, rfl⟩) | (go_at_call 166; (refine (all_any _ _ _ (wordB [45]) _ hs (fnB_word ⟨#[45]⟩ _ _ (by simp)) eg).mono ?_); rintro e w' ⟨rfl, rfl⟩))
            go_ret
            exact ⟨ret_bool (by unfold partB; rw [ha, E0.out, G3.out, G4.out, ← H3.out, ← H4.out, h3, h4, L.out, decide_eq_true h1]; rfl), (Bl.refl _).alloc _⟩
          | false =>
            go_enter Tryz.func170, Tryz.ntmps170
            go_wp2_with (first | (go_at_call 167; (with_reducible refine (word_any _ _).mono ?_); rintro e w' ⟨rfl, rfl⟩) | (go_at_call 166; (refine (all_any _ _ _ (wordB [45]) _ hs (fnB_word ⟨#[45]⟩ _ _ (by simp)) eg).mono ?_); rintro e w' ⟨rfl, rfl⟩))
            go_ret
            exact ⟨ret_bool (by unfold partB; rw [G4.out, ← H4.out, h4]; simp), (Bl.refl _).alloc _⟩
        | false =>
          go_enter Tryz.func170, Tryz.ntmps170
          go_wp2_with (first | (go_at_call 167; (with_reducible refine (word_any _ _).mono ?_); rintro e w' ⟨rfl, rfl⟩) | (go_at_call 166; (refine (all_any _ _ _ (wordB [45]) _ hs (fnB_word ⟨#[45]⟩ _ _ (by simp)) eg).mono ?_); rintro e w' ⟨rfl, rfl⟩))
          go_ret
          exact ⟨ret_bool (by unfold partB; rw [G3.out, ← H3.out, h3]; simp), (Bl.refl _).alloc _⟩
    · have e2 : decide ((s.size : Int) ≤ 63) = false := decide_eq_false (by omega)
      go_enter Tryz.func170, Tryz.ntmps170
      go_wp2
      go_ret
      refine ⟨ret_bool ?_, Bl.refl _⟩
      unfold partB; rw [L.out, decide_eq_false h1]; simp

end Go.Proofs.YtjocbifjmchbcaaGreatDoor
/- Plain lemmas on lists of bytes: no program. -/
namespace Go.Proofs.YtjocbifjmchbcaaGreatDoor

theorem takeWhile_stop {α : Type} (p : α → Bool) : ∀ (l : List α) (k : Nat), k ≤ l.length → (l.take k).all p = true → (∀ a, l[k]? = some a → p a = false) → (l.takeWhile p).length = k
  | [], k, hk, _, _ => by simp at hk; simp [hk]
  | a :: l, 0, _, _, h => by
    have := h a rfl
    simp [this]
  | a :: l, k + 1, hk, ha, h => by
    simp at ha
    have h2 := takeWhile_stop p l k (by simpa using hk) (by simpa using ha.2) (by simpa using h)
    simp [ha.1, h2]

/-- How many bytes like its first one a text begins with. -/
def runL (l : List UInt8) : Nat := (l.takeWhile (· == l.headD 0)).length
theorem runL_le (l : List UInt8) : runL l ≤ l.length := by
  unfold runL; exact (List.takeWhile_sublist _).length_le

/-! ### the library's words at one byte -/
theorem index_one (c : UInt8) : ∀ l : List UInt8, Lib.index l [c] = Lib.indexByte l c
  | [] => rfl
  | b :: l => by
    unfold Lib.index Lib.indexByte
    rw [index_one c l]
    have e : ([c] : List UInt8).isPrefixOf (b :: l) = (b == c) := by
      simp [List.isPrefixOf]
      rw [Bool.eq_iff_iff]; simp; exact ⟨fun h => h.symm, fun h => h.symm⟩
    rw [e]

theorem indexByte_eq (c : UInt8) : ∀ l : List UInt8, Lib.indexByte l c = if l.contains c then ((l.takeWhile (· != c)).length : Int) else -1
  | [] => rfl
  | b :: l => by
    unfold Lib.indexByte
    rw [indexByte_eq c l]
    by_cases h : b = c
    · subst h; simp
    · have h1 : (b == c) = false := by simpa using h
      have h2 : (b != c) = true := by simpa using h
      have h3 : (c == b) = false := by simpa using fun e => h e.symm
      rw [List.contains_cons, h3, Bool.false_or, h1]
      by_cases h4 : l.contains c = true
      · rw [if_pos h4, if_pos h4, List.takeWhile_cons, h2]
        simp
      · rw [if_neg h4, if_neg h4]; simp

theorem indexByte_in {c : UInt8} {l : List UInt8} (h : l.contains c = true) : Lib.indexByte l c = ((l.takeWhile (· != c)).length : Int) := by
  rw [indexByte_eq, if_pos h]
theorem indexByte_out {c : UInt8} {l : List UInt8} (h : l.contains c = false) : Lib.indexByte l c = -1 := by
  rw [indexByte_eq, if_neg (by rw [h]; decide)]

theorem takeWhile_lt {c : UInt8} : ∀ {l : List UInt8}, l.contains c = true → (l.takeWhile (· != c)).length < l.length
  | [], h => by simp at h
  | b :: l, h => by
    by_cases e : b = c
    · subst e; simp
    · have h2 : (b != c) = true := by simpa using e
      rw [List.takeWhile_cons, h2]
      have h3 : (c == b) = false := by simpa using fun k => e k.symm
      rw [List.contains_cons, h3, Bool.false_or] at h
      have := takeWhile_lt h
      simp
      omega

theorem split_at {c : UInt8} : ∀ {l : List UInt8}, l.contains c = true → l = l.takeWhile (· != c) ++ c :: (l.dropWhile (· != c)).tail
  | [], h => by simp at h
  | b :: l, h => by
    by_cases e : b = c
    · subst e; simp
    · have h2 : (b != c) = true := by simpa using e
      have h3 : (c == b) = false := by simpa using fun k => e k.symm
      rw [List.contains_cons, h3, Bool.false_or] at h
      rw [List.takeWhile_cons, List.dropWhile_cons, h2]
      simp
      exact split_at h

theorem takeWhile_take {α : Type} (p : α → Bool) (l : List α) : l.take (l.takeWhile p).length = l.takeWhile p := by
  have h := List.takeWhile_append_dropWhile (p := p) (l := l)
  calc l.take (l.takeWhile p).length = (l.takeWhile p ++ l.dropWhile p).take (l.takeWhile p).length := by rw [h]
    _ = l.takeWhile p := List.take_left
theorem takeWhile_drop {α : Type} (p : α → Bool) (l : List α) : l.drop (l.takeWhile p).length = l.dropWhile p := by
  have h := List.takeWhile_append_dropWhile (p := p) (l := l)
  calc l.drop (l.takeWhile p).length = (l.takeWhile p ++ l.dropWhile p).drop (l.takeWhile p).length := by rw [h]
    _ = l.dropWhile p := List.drop_left
theorem takeWhile_drop1 {α : Type} (p : α → Bool) (l : List α) : l.drop ((l.takeWhile p).length + 1) = (l.dropWhile p).tail := by
  rw [← List.drop_drop, takeWhile_drop, List.drop_one]

theorem cut_one (c : UInt8) (l : List UInt8) : Lib.cut l [c] = if l.contains c then (l.takeWhile (· != c), (l.dropWhile (· != c)).tail, true) else (l, [], false) := by
  unfold Lib.cut
  rw [index_one]
  by_cases h : l.contains c = true
  · rw [indexByte_in h, if_pos h, if_pos (by omega)]
    simp [takeWhile_take, takeWhile_drop1]
  · rw [if_neg h, indexByte_out (by simpa using h), if_neg (by decide)]

/-- The parts of a text between a byte. -/
def splitC (c : UInt8) : List UInt8 → List (List UInt8)
  | [] => [[]]
  | b :: l => if b == c then [] :: splitC c l else match splitC c l with
    | [] => [[b]]
    | h :: t => (b :: h) :: t
theorem splitC_ne (c : UInt8) : ∀ l, splitC c l ≠ []
  | [] => by simp [splitC]
  | b :: l => by
    unfold splitC
    split
    · simp
    · split <;> simp
theorem splitC_le (c : UInt8) : ∀ (l x : List UInt8), x ∈ splitC c l → x.length ≤ l.length
  | [], x, h => by simp [splitC] at h; simp [h]
  | b :: l, x, h => by
    unfold splitC at h
    split at h
    · rcases List.mem_cons.mp h with rfl | h
      · simp
      · have := splitC_le c l x h; simp; omega
    · split at h
      · rename_i e; exact absurd e (splitC_ne c l)
      · rename_i y t e
        rcases List.mem_cons.mp h with rfl | h
        · have := splitC_le c l y (by rw [e]; simp); simp; omega
        · have := splitC_le c l x (by rw [e]; exact List.mem_cons_of_mem _ h); simp; omega
theorem splitC_out {c : UInt8} : ∀ {l : List UInt8}, l.contains c = false → splitC c l = [l]
  | [], _ => rfl
  | b :: l, h => by
    rw [List.contains_cons, Bool.or_eq_false_iff] at h
    have h1 : (b == c) = false := by
      have := h.1; simp at this ⊢; exact fun e => this e.symm
    rw [splitC, h1, splitC_out h.2]
    rfl
theorem splitC_app (c : UInt8) : ∀ (p l : List UInt8), p.contains c = false → splitC c (p ++ c :: l) = p :: splitC c l
  | [], l, _ => by simp [splitC]
  | b :: p, l, h => by
    rw [List.contains_cons, Bool.or_eq_false_iff] at h
    have h1 : (b == c) = false := by
      have := h.1; simp at this ⊢; exact fun e => this e.symm
    rw [List.cons_append, splitC, h1, splitC_app c p l h.2]
    rfl
theorem takeWhile_not {c : UInt8} : ∀ (l : List UInt8), (l.takeWhile (· != c)).contains c = false
  | [] => rfl
  | b :: l => by
    rw [List.takeWhile_cons]
    by_cases e : b = c
    · subst e; simp
    · have h2 : (b != c) = true := by simpa using e
      have h3 : (c == b) = false := by simpa using fun k => e k.symm
      rw [h2]
      simp only [if_true]
      rw [List.contains_cons, h3, takeWhile_not l]; rfl

theorem splitK_one (c : UInt8) : ∀ (k : Nat) (l : List UInt8), l.count c = k → Lib.splitK [c] 0 k l = splitC c l
  | 0, l, h => by
    have : l.contains c = false := by
      rw [List.count_eq_zero] at h; simpa using h
    rw [splitC_out this]; rfl
  | k + 1, l, h => by
    have hc : l.contains c = true := by
      have : 0 < l.count c := by omega
      rw [List.count_pos_iff] at this; simpa using this
    have e := split_at hc
    have hn : ¬ (Lib.index l [c] == -1) = true := by rw [index_one, indexByte_in hc]; simp
    rw [Lib.splitK, if_neg hn, index_one, indexByte_in hc]
    have hk : (l.dropWhile (· != c)).tail.count c = k := by
      rw [e, List.count_append, List.count_cons_self] at h
      have : (l.takeWhile (· != c)).count c = 0 := by
        rw [List.count_eq_zero]; have := takeWhile_not (c := c) l; simpa using this
      omega
    have e2 : splitC c l = l.takeWhile (· != c) :: splitC c (l.dropWhile (· != c)).tail := by
      conv => lhs; rw [e]
      exact splitC_app c _ _ (takeWhile_not l)
    rw [e2, ← splitK_one c k _ hk]
    simp [takeWhile_take, takeWhile_drop1]

theorem replaceK_one (c d : UInt8) : ∀ (k : Nat) (l : List UInt8), l.count c = k → Lib.replaceK [c] [d] k l = l.map fun b => if b == c then d else b
  | 0, l, h => by
    have h2 : c ∉ l := by rwa [List.count_eq_zero] at h
    rw [Lib.replaceK]
    symm
    rw [List.map_congr_left (g := id)]
    · simp
    · intro a ha
      have : (a == c) = false := by simp; rintro rfl; exact h2 ha
      rw [this]; rfl
  | k + 1, l, h => by
    have hc : l.contains c = true := by
      have : 0 < l.count c := by omega
      rw [List.count_pos_iff] at this; simpa using this
    have e := split_at hc
    have hn : ¬ (Lib.index l [c] == -1) = true := by rw [index_one, indexByte_in hc]; simp
    rw [Lib.replaceK, if_neg hn, index_one, indexByte_in hc]
    have h0 : (l.takeWhile (· != c)).count c = 0 := by
      rw [List.count_eq_zero]; have := takeWhile_not (c := c) l; simpa using this
    have hk : (l.dropWhile (· != c)).tail.count c = k := by
      rw [e, List.count_append, List.count_cons_self] at h
      omega
    have ih := replaceK_one c d k _ hk
    have i0 := replaceK_one c d 0 _ h0
    rw [Lib.replaceK] at i0
    conv => rhs; rw [e, List.map_append, List.map_cons, ← i0, ← ih]
    simp [takeWhile_take, takeWhile_drop1]

theorem replaceAll_one (c d : UInt8) (hcd : c ≠ d) (l : List UInt8) : Lib.replaceAll l [c] [d] = l.map fun b => if b == c then d else b := by
  unfold Lib.replaceAll Lib.replace
  have h1 : ¬ (([c] : List UInt8) == [d]) = true := by simpa using hcd
  rw [if_neg h1, Lib.replaceNum, if_pos (Or.inl (by decide)), Lib.count_one]
  exact replaceK_one c d _ l rfl

/-! ### span.Code -/
def lf (l : List UInt8) : List UInt8 := l.map fun b => if b == 10 then 32 else b
/-- A code's text. -/
def stripL (l : List UInt8) : List UInt8 :=
  if (lf l).any (· != 32) && (lf l).headD 0 == 32 && (lf l).getLastD 0 == 32 then (lf l).tail.dropLast else lf l

theorem dropWhile_nil {α : Type} (p : α → Bool) : ∀ l : List α, l.dropWhile p = [] ↔ ∀ x ∈ l, p x = true
  | [] => by simp
  | a :: l => by
    rw [List.dropWhile_cons]
    by_cases h : p a = true
    · rw [if_pos h, dropWhile_nil p l]; simp [h]
    · rw [if_neg h]; simp [h]
theorem trimB_nil (c : UInt8) (l : List UInt8) : Lib.trimB l c = [] ↔ l.any (· != c) = false := by
  unfold Lib.trimB Lib.trimLeftB Lib.trimRightB
  constructor
  · intro h
    rw [List.any_eq_false]
    intro x hx hne
    have h1 : ∀ y ∈ (l.reverse.dropWhile (· == c)).reverse, (y == c) = true := by
      intro y hy
      exact ((dropWhile_nil _ _).mp h) y hy
    have h2 : x ∈ l.reverse.dropWhile (· == c) ∨ x = c := by
      have hx' : x ∈ l.reverse := by simpa using hx
      rw [← List.takeWhile_append_dropWhile (p := (· == c)) (l := l.reverse)] at hx'
      rcases List.mem_append.mp hx' with h | h
      · right
        have := List.all_takeWhile (p := (· == c)) (l := l.reverse)
        rw [List.all_eq_true] at this
        simpa using this x h
      · exact Or.inl h
    rcases h2 with h2 | h2
    · have := h1 x (by simpa using h2)
      simp at this hne; exact hne this
    · simp at hne; exact hne h2
  · intro h
    rw [List.any_eq_false] at h
    have : l.reverse.dropWhile (· == c) = [] := by
      rw [dropWhile_nil]
      intro x hx
      have := h x (by simpa using hx)
      simpa using this
    rw [this]; rfl

/-- The place of the first run of just n ticks. -/
def codeGo (n : Nat) : Nat → List UInt8 → Option Nat
  | 0, _ => none
  | f + 1, l => if l.contains 96 then
      if runL (l.drop (l.takeWhile (· != 96)).length) = n then some (l.takeWhile (· != 96)).length
      else (codeGo n f (l.drop ((l.takeWhile (· != 96)).length + runL (l.drop (l.takeWhile (· != 96)).length)))).map (· + ((l.takeWhile (· != 96)).length + runL (l.drop (l.takeWhile (· != 96)).length)))
    else none
/-- A code's text, and how long all of it is. -/
def codeL (l : List UInt8) : List UInt8 × Nat :=
  if l.headD 0 == 96 then match codeGo (runL l) (l.length + 1) (l.drop (runL l)) with
    | none => ([], 0)
    | some p => (stripL ((l.drop (runL l)).take p), runL l + p + runL l)
  else ([], 0)

theorem drop_at {c : UInt8} {l : List UInt8} (h : l.contains c = true) : l.drop (l.takeWhile (· != c)).length = c :: (l.dropWhile (· != c)).tail := by
  have e := congrArg (List.drop (l.takeWhile (· != c)).length) (split_at h)
  rw [List.drop_left] at e
  exact e
theorem headD_drop (l : List UInt8) (h : l.contains 96 = true) : (l.drop (l.takeWhile (· != 96)).length).headD 0 = 96 := by
  rw [drop_at h]; rfl
theorem runL_pos (l : List UInt8) (h : l ≠ []) : 0 < runL l := by
  cases l with
  | nil => exact absurd rfl h
  | cons a l => simp [runL]

end Go.Proofs.YtjocbifjmchbcaaGreatDoor
/- The contract of span.Run. -/
namespace Go.Proofs.YtjocbifjmchbcaaGreatDoor
open Go.RowKit

theorem at_some (s : ByteArray) (k : Nat) (h : k < s.size) : s.data.toList[k]? = some s[k] := by
  rw [List.getElem?_eq_getElem (by simpa using h)]; rfl
theorem at_none (s : ByteArray) (k : Nat) (h : ¬ k < s.size) : s.data.toList[k]? = none := by
  rw [List.getElem?_eq_none_iff]; simpa using Nat.le_of_not_lt h
theorem beq_of_byte (b c : UInt8) : ((b.toNat : Int) == (c.toNat : Int)) = (b == c) := eq_of_byte _ rfl

set_option maxHeartbeats 400000 in
theorem run_any (s : ByteArray) (w : World) (hs : s.size ≤ 140737488351232) :
    Calls Tryz.prog 68 #[.string s] w fun e w' => e = .returned (.int .i64 (runL s.data.toList)) ∧ Bl w w' := by
  have hl : s.data.toList.length = s.size := by simp
  have L := Lib.hid hl
  clear hl
  go_enter Tryz.func68, Tryz.ntmps68
  go_wp2
  go_loopw [3] (fun i wr => ∃ k : Nat, k ≤ s.size ∧ i = .int .i64 k ∧ Bl w wr ∧ Hid ((s.data.toList.take k).all (· == s.data.toList.headD 0) = true)) (fun i _ => s.size - (intOf i).toNat)
  case atStart => exact ⟨0, Nat.zero_le _, rfl, Bl.refl _, Lib.hid (by simp)⟩
  case round =>
    obtain ⟨k, hk, rfl, hb, hall⟩ := hrel
    by_cases hlt : k < s.size
    · have hp : 0 < s.size := by omega
      have G := Lib.hid (headD_at s hp)
      have H := Lib.hid (take_succ_all s (· == s.data.toList.headD 0) k hlt)
      have E := Lib.hid (beq_of_byte s[k] s[0])
      cases he : ((s[k].toNat : Int) == (s[0].toNat : Int)) with
      | true =>
        go_wp2
        repeat (go_quiet (fail); try go_wp2)
        go_roundw
        case rel => exact ⟨k + 1, by omega, by go_num, by repeat (first | exact hb | apply Bl.drewN | apply Bl.drew), Lib.hid (by rw [H.out, hall.out, G.out]; rw [he] at E; exact E.out.symm)⟩
        case measure => simp [intOf]; omega
      | false =>
        go_wp2
        repeat (go_quiet (fail); try go_wp2)
        go_ret
        refine ⟨ret_int ?_, by repeat (first | exact hb | apply Bl.drewN | apply Bl.drew)⟩
        have h := takeWhile_stop (· == s.data.toList.headD 0) s.data.toList k (by rw [L.out]; exact hk) hall.out
        rw [runL, h]
        intro a ha
        have : a = s[k] := Option.some.inj (ha.symm.trans (at_some s k hlt))
        rw [this, G.out]; rw [he] at E; exact E.out.symm
    · go_wp2
      repeat (go_quiet (fail); try go_wp2)
      go_ret
      refine ⟨ret_int ?_, by repeat (first | exact hb | apply Bl.drewN | apply Bl.drew)⟩
      have h := takeWhile_stop (· == s.data.toList.headD 0) s.data.toList k (by rw [L.out]; exact hk) hall.out
      rw [runL, h]
      intro a ha
      rw [at_none s k hlt] at ha; cases ha

end Go.Proofs.YtjocbifjmchbcaaGreatDoor
/- The contract of span.stripped. -/
namespace Go.Proofs.YtjocbifjmchbcaaGreatDoor
open Go.RowKit

theorem lf_length (l : List UInt8) : (lf l).length = l.length := by simp [lf]
theorem size_len (s : ByteArray) : s.data.toList.length = s.size := by simp

theorem replaceLf_any (s : ByteArray) (w : World) (hm : MaxAt w) (hs : s.size ≤ 1000000) :
    Calls Tryz.prog 163 #[.string s, .string ⟨#[10]⟩, .string ⟨#[32]⟩] w fun e w' => e = .returned (.string (mkB (lf s.data.toList))) ∧ Bl w w' := by
  obtain ⟨m, hm⟩ := hm.out
  refine (Tryz.strings_ReplaceAll s ⟨#[10]⟩ ⟨#[32]⟩ m w (by omega) hm (by decide) ?_).mono ?_
  · have := Lib.countB_le ⟨#[10]⟩ (by decide) s.size s (Nat.le_refl _)
    have h1 : (⟨#[32]⟩ : ByteArray).size = 1 := rfl
    rw [h1]; omega
  · rintro e w' ⟨rfl, hb⟩
    refine ⟨?_, ⟨hb⟩⟩
    have : Lib.replaceAll s.data.toList (⟨#[10]⟩ : ByteArray).data.toList (⟨#[32]⟩ : ByteArray).data.toList = lf s.data.toList := replaceAll_one 10 32 (by decide) _
    rw [this]; rfl

theorem trimBlank_no (t : ByteArray) (w : World) (hs : t.size ≤ 1000000) (h : t.data.toList.any (· != 32) = false) :
    Calls Tryz.prog 164 #[.string t, .string ⟨#[32]⟩] w fun e w' => e = .returned (.string ⟨#[]⟩) ∧ Bl w w' := by
  refine (Tryz.strings_Trim_one t 32 (by decide) w (by omega)).mono ?_
  rintro e w' ⟨rfl, hb⟩
  rw [(trimB_nil 32 t.data.toList).mpr h]
  refine ⟨rfl, ?_⟩
  rcases hb with rfl | rfl
  · exact Bl.refl _
  · exact (Bl.refl _).drew
theorem trimBlank_yes (t : ByteArray) (w : World) (hs : t.size ≤ 1000000) (h : t.data.toList.any (· != 32) = true) :
    Calls Tryz.prog 164 #[.string t, .string ⟨#[32]⟩] w fun e w' => ∃ u : ByteArray, e = .returned (.string u) ∧ 0 < u.size ∧ Bl w w' := by
  refine (Tryz.strings_Trim_one t 32 (by decide) w (by omega)).mono ?_
  rintro e w' ⟨rfl, hb⟩
  refine ⟨_, rfl, ?_, ?_⟩
  · have h1 : Lib.trimB t.data.toList 32 ≠ [] := by
      intro e; rw [trimB_nil] at e; rw [e] at h; cases h
    have := List.length_pos_iff.mpr h1
    simpa [ByteArray.size] using this
  rcases hb with rfl | rfl
  · exact Bl.refl _
  · exact (Bl.refl _).drew

theorem hasPrefix_one (c : UInt8) (l : List UInt8) (h : l ≠ []) : Lib.hasPrefix l [c] = (l.headD 0 == c) := by
  cases l with
  | nil => exact absurd rfl h
  | cons b l =>
    simp [Lib.hasPrefix, List.isPrefixOf]
    rw [Bool.eq_iff_iff]; simp; exact ⟨fun h => h.symm, fun h => h.symm⟩
theorem hasSuffix_one (c : UInt8) (l : List UInt8) (h : l ≠ []) : Lib.hasSuffix l [c] = (l.getLastD 0 == c) := by
  unfold Lib.hasSuffix List.isSuffixOf
  rw [show ([c] : List UInt8).reverse = [c] from rfl]
  have hr : l.reverse ≠ [] := by simpa using h
  have := hasPrefix_one c l.reverse hr
  unfold Lib.hasPrefix at this
  rw [this]
  congr 1
  rw [List.getLastD_eq_getLast?, List.headD_eq_head?_getD, List.head?_reverse]

theorem two_of_blank (l : List UInt8) (h : l.any (· != 32) = true) (h1 : (l.headD 0 == 32) = true) : 2 ≤ l.length := by
  match l with
  | [] => cases h
  | [a] =>
    simp at h h1
    exact absurd h1 h
  | _ :: _ :: _ => simp
theorem extract_mid (T : ByteArray) : T.extract 1 (T.size - 1) = mkB T.data.toList.tail.dropLast := by
  refine str_eq ?_
  rw [Lib.extract_data, mkB_data, List.dropLast_eq_take, List.length_tail, size_len, List.drop_one]

def stripB (s : ByteArray) : ByteArray := mkB (stripL s.data.toList)

set_option maxHeartbeats 400000 in
theorem stripped_any (s : ByteArray) (w : World) (hm : MaxAt w) (hs : s.size ≤ 1000000) :
    Calls Tryz.prog 108 #[.string s] w fun e w' => e = .returned (.string (stripB s)) ∧ Bl w w' := by
  obtain ⟨T, hT⟩ : ∃ T, T = mkB (lf s.data.toList) := ⟨_, rfl⟩
  have hd : T.data.toList = lf s.data.toList := by rw [hT]; rfl
  have hz : T.size ≤ 1000000 := by rw [hT, mkB_size, lf_length, size_len]; exact hs
  have hS : stripB s = if T.data.toList.any (· != 32) && T.data.toList.headD 0 == 32 && T.data.toList.getLastD 0 == 32 then mkB T.data.toList.tail.dropLast else T := by
    rw [hd]
    unfold stripB stripL
    split
    · rfl
    · rw [hT]
  have HR := replaceLf_any s w hm hs
  rw [← hT] at HR
  clear hT hd
  have HS := Lib.hid hS
  clear hS
  cases ha : T.data.toList.any (· != 32) with
  | false =>
    have HA := Lib.hid ha
    clear ha
    go_enter Tryz.func108, Tryz.ntmps108
    go_wp2_with (first | (go_at_call 163; (with_reducible refine HR.mono ?_); rintro e w1 ⟨rfl, hb1⟩) | (go_at_call 164; (with_reducible refine (trimBlank_no _ _ hz HA.out).mono ?_); rintro e w2 ⟨rfl, hb2⟩))
    go_ret
    exact ⟨ret_str (by rw [HS.out, HA.out]; rfl), hb1.trans hb2⟩
  | true =>
    have hne : T.data.toList ≠ [] := by intro e; rw [e] at ha; cases ha
    have P1 := Lib.hid (hasPrefix_one 32 _ hne)
    have P2 := Lib.hid (hasSuffix_one 32 _ hne)
    have HA := Lib.hid ha
    clear ha hne
    cases hp : Lib.hasPrefix T.data.toList [32] with
    | false =>
      go_enter Tryz.func108, Tryz.ntmps108
      go_wp2_with (first | (go_at_call 163; (with_reducible refine HR.mono ?_); rintro e w1 ⟨rfl, hb1⟩) | (go_at_call 164; (with_reducible refine (trimBlank_yes _ _ hz HA.out).mono ?_); rintro e w2 ⟨u, rfl, hu, hb2⟩; have hu2 := isEmpty_false hu) | (go_at_call 34; (with_reducible refine (Tryz.strings_HasPrefix _ _ _).mono ?_); rintro e w' ⟨rfl, rfl⟩))
      go_ret
      exact ⟨ret_str (by rw [HS.out, ← P1.out, hp]; simp), hb1.trans hb2⟩
    | true =>
      cases hq : Lib.hasSuffix T.data.toList [32] with
      | false =>
        go_enter Tryz.func108, Tryz.ntmps108
        go_wp2_with (first | (go_at_call 163; (with_reducible refine HR.mono ?_); rintro e w1 ⟨rfl, hb1⟩) | (go_at_call 164; (with_reducible refine (trimBlank_yes _ _ hz HA.out).mono ?_); rintro e w2 ⟨u, rfl, hu, hb2⟩; have hu2 := isEmpty_false hu) | (go_at_call 34; (with_reducible refine (Tryz.strings_HasPrefix _ _ _).mono ?_); rintro e w' ⟨rfl, rfl⟩) | (go_at_call 165; (with_reducible refine (Tryz.strings_HasSuffix _ _ _ (by omega)).mono ?_); rintro e w' ⟨rfl, rfl⟩))
        go_ret
        exact ⟨ret_str (by rw [HS.out, ← P2.out, hq]; simp), hb1.trans hb2⟩
      | true =>
        have h2 : 2 ≤ T.size := by
          rw [← size_len]; exact two_of_blank _ HA.out (by rw [← P1.out]; exact hp)
        go_enter Tryz.func108, Tryz.ntmps108
        go_wp2_with (first | (go_at_call 163; (with_reducible refine HR.mono ?_); rintro e w1 ⟨rfl, hb1⟩) | (go_at_call 164; (with_reducible refine (trimBlank_yes _ _ hz HA.out).mono ?_); rintro e w2 ⟨u, rfl, hu, hb2⟩; have hu2 := isEmpty_false hu) | (go_at_call 34; (with_reducible refine (Tryz.strings_HasPrefix _ _ _).mono ?_); rintro e w' ⟨rfl, rfl⟩) | (go_at_call 165; (with_reducible refine (Tryz.strings_HasSuffix _ _ _ (by omega)).mono ?_); rintro e w' ⟨rfl, rfl⟩))
        go_ret
        exact ⟨ret_str (by rw [HS.out, HA.out, ← P1.out, ← P2.out, hp, hq]; exact extract_mid T), hb1.trans hb2⟩

end Go.Proofs.YtjocbifjmchbcaaGreatDoor
/- The contract of span.Code. -/
namespace Go.Proofs.YtjocbifjmchbcaaGreatDoor
open Go.RowKit

theorem idx_yes (t : ByteArray) (c : UInt8) (n : Int) (hn : n = (c.toNat : Int)) (j : Nat) (h : t.data.toList.contains c = true) (hj : (t.data.toList.takeWhile (· != c)).length = j) (w : World) :
    Calls Tryz.prog 107 #[.string t, .int .u8 n] w fun e w' => e = .returned (.int .i64 j) ∧ w = w' := by
  subst hn; subst hj
  refine (Tryz.strings_IndexByte t _ w).mono ?_
  rintro e w' ⟨rfl, rfl⟩
  refine ⟨ret_int ?_, rfl⟩
  rw [← indexByte_in h]; simp
theorem idx_no (t : ByteArray) (c : UInt8) (n : Int) (hn : n = (c.toNat : Int)) (h : t.data.toList.contains c = false) (w : World) :
    Calls Tryz.prog 107 #[.string t, .int .u8 n] w fun e w' => e = .returned (.int .i64 (-1)) ∧ w = w' := by
  subst hn
  refine (Tryz.strings_IndexByte t _ w).mono ?_
  rintro e w' ⟨rfl, rfl⟩
  refine ⟨ret_int ?_, rfl⟩
  rw [← indexByte_out h]; simp
theorem run_is (t : ByteArray) (m : Nat) (h : runL t.data.toList = m) (hs : t.size ≤ 140737488351232) (w : World) :
    Calls Tryz.prog 68 #[.string t] w fun e w' => e = .returned (.int .i64 m) ∧ Bl w w' := by
  subst h; exact run_any t w hs
theorem hasPrefix_is (s p : ByteArray) (b : Bool) (h : Lib.hasPrefix s.data.toList p.data.toList = b) (w : World) :
    Calls Tryz.prog 34 #[.string s, .string p] w fun e w' => e = .returned (.bool b) ∧ w = w' := by
  subst h
  refine (Tryz.strings_HasPrefix s p w).mono ?_
  rintro e w' ⟨rfl, rfl⟩
  exact ⟨rfl, rfl⟩

theorem hasPrefix_one' (c : UInt8) (hc : c ≠ 0) (l : List UInt8) : Lib.hasPrefix l [c] = (l.headD 0 == c) := by
  cases l with
  | nil => 
    have : (0 == c) = false := by simpa using fun h => hc h.symm
    simp [Lib.hasPrefix, this]
  | cons a l => exact hasPrefix_one c _ (by simp)

def codeV (l : List UInt8) : Value := .tuple #[.string (mkB (codeL l).1), .int .i64 (codeL l).2]

theorem codeV_no {l : List UInt8} (h : (l.headD 0 == 96) = false) : codeV l = .tuple #[.string ⟨#[]⟩, .int .i64 0] := by
  unfold codeV codeL; rw [if_neg (by rw [h]; decide)]; rfl
theorem codeV_none {l : List UInt8} (h : codeGo (runL l) (l.length + 1) (l.drop (runL l)) = none) : codeV l = .tuple #[.string ⟨#[]⟩, .int .i64 0] := by
  unfold codeV codeL
  split
  · rw [h]; rfl
  · rfl
theorem codeV_some {l : List UInt8} {p : Nat} (h0 : (l.headD 0 == 96) = true) (h : codeGo (runL l) (l.length + 1) (l.drop (runL l)) = some p) :
    codeV l = .tuple #[.string (mkB (stripL ((l.drop (runL l)).take p))), .int .i64 ((runL l + p + runL l : Nat) : Int)] := by
  unfold codeV codeL
  rw [if_pos h0, h]

set_option maxHeartbeats 400000 in
theorem code_any (s : ByteArray) (w : World) (hm : MaxAt w) (hs : s.size ≤ 1000000) :
    Calls Tryz.prog 67 #[.string s] w fun e w' => e = .returned (codeV s.data.toList) ∧ Bl w w' := by
  have hp1 := hasPrefix_one' 96 (by decide) s.data.toList
  obtain ⟨n, hn⟩ : ∃ n, runL s.data.toList = n := ⟨_, rfl⟩
  have hnl : n ≤ s.size := by rw [← hn, ← size_len]; exact runL_le _
  cases hp : (s.data.toList.headD 0 == 96) with
  | false =>
    have C := Lib.hid (codeV_no hp)
    have HP := fun W => hasPrefix_is s ⟨#[96]⟩ false (hp1.trans hp) W
    clear hp1 hp hn
    go_enter Tryz.func67, Tryz.ntmps67
    go_wp2_with (first | (go_at_call 34; (with_reducible refine (HP _).mono ?_); rintro e w' ⟨rfl, rfl⟩))
    go_ret2
    exact ⟨by rw [C.out]; rfl, Bl.refl _⟩
  | true =>
    have HP := fun W => hasPrefix_is s ⟨#[96]⟩ true (hp1.trans hp) W
    have HR := fun W => run_is s n hn (by omega) W
    have N := Lib.hid hn
    have P := Lib.hid hp
    clear hp1 hp hn
    go_enter Tryz.func67, Tryz.ntmps67
    go_wp2_with (first | (go_at_call 34; (with_reducible refine (HP _).mono ?_); rintro e w' ⟨rfl, rfl⟩) | (go_at_call 68; (with_reducible refine (HR _).mono ?_); rintro e w1 ⟨rfl, hb1⟩))
    go_loopw [5] (fun i wr => ∃ a f : Nat, n ≤ a ∧ a ≤ s.size ∧ i = .int .i64 a ∧ Bl w wr ∧ Hid (s.size - a < f ∧ codeGo n (s.size + 1) (s.data.toList.drop n) = (codeGo n f (s.data.toList.drop a)).map (· + (a - n)))) (fun i _ => s.size - (intOf i).toNat)
    case atStart => exact ⟨n, s.size + 1, Nat.le_refl _, hnl, rfl, hb1, Lib.hid ⟨by omega, by simp⟩⟩
    case round =>
      obtain ⟨a, f, ha1, ha2, rfl, hb, hrel⟩ := hrel
      obtain ⟨R, eR⟩ : ∃ R, s.extract a s.size = R := ⟨_, rfl⟩
      have hRd : R.data.toList = s.data.toList.drop a := by rw [← eR]; exact Lib.extract_to_end s a
      have hRs : R.size = s.size - a := by rw [← size_len, hRd, List.length_drop, size_len]
      obtain ⟨f, rfl⟩ : ∃ g, f = g + 1 := ⟨f - 1, by have := hrel.out.1; omega⟩
      cases hc : R.data.toList.contains 96 with
      | false =>
        have HI := fun W => idx_no R 96 96 rfl hc W
        have C := Lib.hid (codeV_none (l := s.data.toList) (by rw [N.out, size_len, hrel.out.2, codeGo, ← hRd, if_neg (by rw [hc]; decide)]; rfl))
        clear hRd hRs hc hrel
        go_wp2_with (first | (go_at_call 107; (with_reducible refine (HI _).mono ?_); rintro e w' ⟨rfl, rfl⟩))
        go_ret2
        exact ⟨by rw [C.out]; rfl, hb⟩
      | true =>
        obtain ⟨j, hj⟩ : ∃ j, (R.data.toList.takeWhile (· != 96)).length = j := ⟨_, rfl⟩
        have hjl : j < R.size := by rw [← hj, ← size_len]; exact takeWhile_lt hc
        have HI := fun W => idx_yes R 96 96 rfl j hc hj W
        obtain ⟨R2, eR2⟩ : ∃ R2, s.extract (a + j) s.size = R2 := ⟨_, rfl⟩
        have hR2d : R2.data.toList = R.data.toList.drop j := by rw [← eR2, Lib.extract_to_end, hRd, List.drop_drop]
        have hR2s : R2.size = s.size - (a + j) := by rw [← eR2, ByteArray.size_extract]; omega
        obtain ⟨m, hmm⟩ : ∃ m, runL R2.data.toList = m := ⟨_, rfl⟩
        have hm1 : 0 < m := by
          rw [← hmm]; refine runL_pos _ ?_
          intro e
          have := size_len R2
          rw [e] at this; simp at this; omega
        have hml : m ≤ R2.size := by rw [← hmm, ← size_len]; exact runL_le _
        have HR2 := fun W => run_is R2 m hmm (by omega) W
        have HG := Lib.hid (show codeGo n (f + 1) R.data.toList = if m = n then some j else (codeGo n f (R.data.toList.drop (j + m))).map (· + (j + m)) by
          rw [codeGo, if_pos hc, hj, ← hR2d, hmm])
        have hjs : a + j < s.size := by omega
        have hjm : a + j + m ≤ s.size := by omega
        have E := Lib.hid hRd
        have Z := Lib.hid hRs
        clear hRd hRs hc hj hR2d hR2s hmm
        by_cases hmn : m = n
        · subst hmn
          have C := Lib.hid (codeV_some (l := s.data.toList) (p := j + (a - m)) P.out (by rw [N.out, size_len, hrel.out.2, ← E.out, HG.out, if_pos rfl]; rfl))
          obtain ⟨R3, eR3⟩ : ∃ R3, s.extract m (a + j) = R3 := ⟨_, rfl⟩
          have hR3 : stripB R3 = mkB (stripL ((s.data.toList.drop m).take (j + (a - m)))) := by
            unfold stripB
            rw [← eR3, Lib.extract_data]
            have e1 : a + j - m = j + (a - m) := by omega
            rw [e1]
          have hR3s : R3.size ≤ 1000000 := by rw [← eR3, ByteArray.size_extract]; omega
          have H3 := fun W hW => stripped_any R3 W hW hR3s
          rw [hR3] at H3
          have N2 := Lib.hid N.out
          clear hR3 hR3s N
          go_wp2_with (first | (go_at_call 107; (with_reducible refine (HI _).mono ?_); rintro e w' ⟨rfl, rfl⟩) | (go_at_call 68; (with_reducible refine (HR2 _).mono ?_); rintro e w2 ⟨rfl, hb2⟩) | (go_at_call 108; (with_reducible refine (H3 _ (hm.bl (hb.trans hb2))).mono ?_); rintro e w3 ⟨rfl, hb3⟩))
          go_ret2
          refine ⟨?_, (hb.trans hb2).trans hb3⟩
          rw [C.out, N2.out]
          have e2 : (m : Int) + ((j + (a - m) : Nat) : Int) + (m : Int) = (a : Int) + (j : Int) + (m : Int) := by omega
          rw [Int.natCast_add, Int.natCast_add, e2]
          rfl
        · have hne : ((m : Int) == (n : Int)) = false := by simpa using fun h => hmn (by omega)
          have M := Lib.hid hmn
          clear hmn
          go_wp2_with (first | (go_at_call 107; (with_reducible refine (HI _).mono ?_); rintro e w' ⟨rfl, rfl⟩) | (go_at_call 68; (with_reducible refine (HR2 _).mono ?_); rintro e w2 ⟨rfl, hb2⟩))
          go_roundw
          case rel =>
            refine ⟨a + j + m, f, by omega, by omega, by go_num, hb.trans hb2, Lib.hid ⟨by have := hrel.out.1; omega, ?_⟩⟩
            rw [hrel.out.2, ← E.out, HG.out, if_neg M.out, Option.map_map, E.out, List.drop_drop]
            have e1 : a + (j + m) = a + j + m := by omega
            rw [e1]
            congr 1
            funext x
            show x + (j + m) + (a - n) = x + (a + j + m - n)
            omega
          case measure => simp [intOf]; omega

end Go.Proofs.YtjocbifjmchbcaaGreatDoor
/- The contracts of span.address. -/
namespace Go.Proofs.YtjocbifjmchbcaaGreatDoor
open Go.RowKit

def headP (c : UInt8) (s : ByteArray) : ByteArray := mkB (s.data.toList.takeWhile (· != c))
def tailP (c : UInt8) (s : ByteArray) : ByteArray := mkB (s.data.toList.dropWhile (· != c)).tail

theorem cut_yes (s p : ByteArray) (c : UInt8) (hp : p = ⟨#[c]⟩) (h : s.data.toList.contains c = true) (w : World) (hm : MaxAt w) (hs : s.size ≤ 1000000) :
    Calls Tryz.prog 105 #[.string s, .string p] w fun e w' => e = .returned (.tuple #[.string (headP c s), .string (tailP c s), .bool true]) ∧ Bl w w' := by
  subst hp
  obtain ⟨m, hm⟩ := hm.out
  refine (Tryz.strings_Cut s ⟨#[c]⟩ m w (by omega) hm).mono ?_
  rintro e w' ⟨rfl, hb⟩
  refine ⟨?_, Bl.of_drewN hb⟩
  have e1 : Lib.cut s.data.toList (⟨#[c]⟩ : ByteArray).data.toList = (s.data.toList.takeWhile (· != c), (s.data.toList.dropWhile (· != c)).tail, true) := by
    show Lib.cut s.data.toList [c] = _
    rw [cut_one, if_pos h]
  rw [e1]; rfl
theorem cut_no (s p : ByteArray) (c : UInt8) (hp : p = ⟨#[c]⟩) (h : s.data.toList.contains c = false) (w : World) (hm : MaxAt w) (hs : s.size ≤ 1000000) :
    Calls Tryz.prog 105 #[.string s, .string p] w fun e w' => e = .returned (.tuple #[.string s, .string ⟨#[]⟩, .bool false]) ∧ Bl w w' := by
  subst hp
  obtain ⟨m, hm⟩ := hm.out
  refine (Tryz.strings_Cut s ⟨#[c]⟩ m w (by omega) hm).mono ?_
  rintro e w' ⟨rfl, hb⟩
  refine ⟨?_, Bl.of_drewN hb⟩
  have e1 : Lib.cut s.data.toList (⟨#[c]⟩ : ByteArray).data.toList = (s.data.toList, [], false) := by
    show Lib.cut s.data.toList [c] = _
    rw [cut_one, if_neg (by rw [h]; decide)]
  rw [e1]

/-- Is a text an address? -/
def addressL (l : List UInt8) : Bool :=
  l.contains 58 && (decide (2 ≤ (l.takeWhile (· != 58)).length) && decide ((l.takeWhile (· != 58)).length ≤ 32) && letterI ((l.takeWhile (· != 58)).headD 0).toNat
    && allL (l.takeWhile (· != 58)) (wordB [43, 46, 45]) && allL (l.dropWhile (· != 58)).tail restB)

set_option maxHeartbeats 400000 in
theorem address_any (s : ByteArray) (w : World) (hm : MaxAt w) (hs : s.size ≤ 1000000) :
    Calls Tryz.prog 109 #[.string s] w fun e w' => e = .returned (.bool (addressL s.data.toList)) ∧ Bl w w' := by
  have eg := enters_of Tryz.func231 (by kernel_rfl) rfl
  have eg2 := enters_of Tryz.func168 (by kernel_rfl) rfl
  cases hc : s.data.toList.contains 58 with
  | false =>
    have HC := cut_no s ⟨#[58]⟩ 58 rfl hc w hm hs
    have R := Lib.hid (show addressL s.data.toList = false by unfold addressL; rw [hc]; rfl)
    clear hc
    go_enter Tryz.func109, Tryz.ntmps109
    go_wp2_with (first | (go_at_call 105; (with_reducible refine HC.mono ?_); rintro e w1 ⟨rfl, hb1⟩))
    go_ret
    exact ⟨ret_bool (by rw [R.out]), hb1⟩
  | true =>
    have HC0 := cut_yes s ⟨#[58]⟩ 58 rfl hc w hm hs
    obtain ⟨A, hA⟩ : ∃ A, headP 58 s = A := ⟨_, rfl⟩
    obtain ⟨B, hB⟩ : ∃ B, tailP 58 s = B := ⟨_, rfl⟩
    rw [hA, hB] at HC0
    have HC := HC0
    clear HC0
    have hAd : s.data.toList.takeWhile (· != 58) = A.data.toList := by rw [← hA]; rfl
    have hBd : (s.data.toList.dropWhile (· != 58)).tail = B.data.toList := by rw [← hB]; rfl
    have hAs : A.size ≤ 1000000 := by rw [← size_len, ← hAd]; have := (List.takeWhile_sublist (· != (58 : UInt8)) (l := s.data.toList)).length_le; rw [size_len] at this; omega
    have hBs : B.size ≤ 1000000 := by
      rw [← size_len, ← hBd, List.length_tail]; have := (List.dropWhile_sublist (· != (58 : UInt8)) (l := s.data.toList)).length_le; rw [size_len] at this; omega
    have R := Lib.hid (show addressL s.data.toList = (decide (2 ≤ A.size) && decide (A.size ≤ 32) && letterI (A.data.toList.headD 0).toNat && allL A.data.toList (wordB [43, 46, 45]) && allL B.data.toList restB) by
      unfold addressL; rw [hc, hAd, hBd, size_len]; rfl)
    clear hc hA hB hAd hBd
    by_cases h2 : 2 ≤ A.size
    · by_cases h32 : A.size ≤ 32
      · have hp : 0 < A.size := by omega
        have c2 : decide ((A.size : Int) < 2) = false := decide_eq_false (by omega)
        have c32 : decide ((32 : Int) < (A.size : Int)) = false := decide_eq_false (by omega)
        have d2 := Lib.hid (decide_eq_true h2)
        have d32 := Lib.hid (decide_eq_true h32)
        have G := Lib.hid (headD_at A hp)
        have b0 : (0 : Int) ≤ (A[0].toNat : Int) := by omega
        have b1 : (A[0].toNat : Int) < 256 := by have := A[0].toNat_lt; omega
        cases hl : letterI (A[0].toNat : Int) with
        | false =>
          go_enter Tryz.func109, Tryz.ntmps109
          go_wp2_with (first | (go_at_call 105; (with_reducible refine HC.mono ?_); rintro e w1 ⟨rfl, hb1⟩) | (go_at_call 112; (with_reducible refine (letter_any _ b0 b1 _).mono ?_); rintro e w' ⟨rfl, rfl⟩))
          go_ret
          exact ⟨ret_bool (by rw [R.out, G.out, hl]; simp), hb1⟩
        | true =>
          have D := Lib.hid (show (letterI (A.data.toList.headD 0).toNat) = true by rw [G.out]; exact hl)
          cases ha : allL A.data.toList (wordB [43, 46, 45]) with
          | false =>
            go_enter Tryz.func109, Tryz.ntmps109
            go_wp2_with (first | (go_at_call 105; (with_reducible refine HC.mono ?_); rintro e w1 ⟨rfl, hb1⟩) | (go_at_call 112; (with_reducible refine (letter_any _ b0 b1 _).mono ?_); rintro e w' ⟨rfl, rfl⟩) | (go_at_call 167; (with_reducible refine (word_any _ _).mono ?_); rintro e w' ⟨rfl, rfl⟩) | (go_at_call 166; (refine (all_any _ _ _ (wordB [43, 46, 45]) _ (by omega) (fnB_word ⟨#[43, 46, 45]⟩ _ _ (by simp)) eg).mono ?_); rintro e w' ⟨rfl, rfl⟩))
            go_ret
            exact ⟨ret_bool (by rw [R.out, ha]; simp), hb1.alloc _⟩
          | true =>
            go_enter Tryz.func109, Tryz.ntmps109
            go_wp2_with (first | (go_at_call 105; (with_reducible refine HC.mono ?_); rintro e w1 ⟨rfl, hb1⟩) | (go_at_call 112; (with_reducible refine (letter_any _ b0 b1 _).mono ?_); rintro e w' ⟨rfl, rfl⟩) | (go_at_call 167; (with_reducible refine (word_any _ _).mono ?_); rintro e w' ⟨rfl, rfl⟩) | (go_at_call_of 166 (Value.string A); (refine (all_any _ _ _ (wordB [43, 46, 45]) _ (by omega) (fnB_word ⟨#[43, 46, 45]⟩ _ _ (by simp)) eg).mono ?_); rintro e w' ⟨rfl, rfl⟩) | (go_at_call 166; (refine (all_any _ _ _ restB _ (by omega) (fnB_rest _) eg2).mono ?_); rintro e w' ⟨rfl, rfl⟩))
            go_ret
            exact ⟨ret_bool (by rw [R.out, d2.out, d32.out, D.out, ha]; rfl), hb1.alloc _⟩
      · have c2 : decide ((A.size : Int) < 2) = false := decide_eq_false (by omega)
        have c32 : decide ((32 : Int) < (A.size : Int)) = true := decide_eq_true (by omega)
        have R2 := Lib.hid (decide_eq_false h32)
        clear h32
        go_enter Tryz.func109, Tryz.ntmps109
        go_wp2_with (first | (go_at_call 105; (with_reducible refine HC.mono ?_); rintro e w1 ⟨rfl, hb1⟩))
        go_ret
        exact ⟨ret_bool (by rw [R.out, R2.out]; simp), hb1⟩
    · have c2 : decide ((A.size : Int) < 2) = true := decide_eq_true (by omega)
      have R2 := Lib.hid (decide_eq_false h2)
      clear h2
      go_enter Tryz.func109, Tryz.ntmps109
      go_wp2_with (first | (go_at_call 105; (with_reducible refine HC.mono ?_); rintro e w1 ⟨rfl, hb1⟩))
      go_ret
      exact ⟨ret_bool (by rw [R.out, R2.out]; simp), hb1⟩

end Go.Proofs.YtjocbifjmchbcaaGreatDoor
/- The contracts of span.mailbox and span.Auto. -/
namespace Go.Proofs.YtjocbifjmchbcaaGreatDoor
open Go.RowKit

/-- Block B holds these texts, one behind the other. -/
structure RowS (w : World) (B : Nat) (P : List ByteArray) : Prop where
  mk :: (out : ∀ k (h : k < P.length), w.cell? ⟨B, k, none⟩ = some (.string P[k]))
theorem RowS.bl {w w' : World} {B : Nat} {P : List ByteArray} (h : RowS w B P) (k : Bl w w') : RowS w' B P := ⟨fun i hi => k.cell (h.out i hi)⟩

theorem split_is (s p : ByteArray) (c : UInt8) (hp : p = ⟨#[c]⟩) (w : World) (hm : MaxAt w) (hs : s.size ≤ 1000000) :
    Calls Tryz.prog 169 #[.string s, .string p] w fun e w' => ∃ (B : Nat) (P : List ByteArray), P.map (·.data.toList) = splitC c s.data.toList ∧
      e = .returned (.slice (some ⟨B, 0, none⟩) P.length P.length) ∧ Bl w w' ∧ RowS w' B P ∧ P.length ≤ s.size + 1 ∧ ∀ x ∈ P, x.size ≤ s.size := by
  subst hp
  obtain ⟨m, hm⟩ := hm.out
  refine (Tryz.strings_Split s ⟨#[c]⟩ m w (by omega) hm (by show 1 ≤ (#[c] : Array UInt8).size; simp)).mono ?_
  rintro e w' ⟨rfl, rfl⟩
  have hmap : (Lib.splitB ⟨#[c]⟩ 0 (Lib.countB s ⟨#[c]⟩) s).map (·.data.toList) = splitC c s.data.toList := by
    rw [Lib.splitB_data]
    refine splitK_one c _ _ ?_
    show _ = Lib.count s.data.toList [c]
    rw [Lib.count_one]
  refine ⟨w.heap.size, Lib.splitB ⟨#[c]⟩ 0 (Lib.countB s ⟨#[c]⟩) s, hmap, ?_, (Bl.refl _).alloc _, ⟨fun k h => ?_⟩, ?_, ?_⟩
  · rw [Lib.splitB_all ⟨#[c]⟩ (by show 1 ≤ (#[c] : Array UInt8).size; simp) 0 _ s rfl]
  · simp
  · rw [Lib.splitB_all ⟨#[c]⟩ (by show 1 ≤ (#[c] : Array UInt8).size; simp) 0 _ s rfl]
    have := Lib.countB_le ⟨#[c]⟩ (by show 1 ≤ (#[c] : Array UInt8).size; simp) s.size s (Nat.le_refl _)
    omega
  · intro x hx
    rw [← size_len, ← size_len]
    exact splitC_le c _ _ (by rw [← hmap]; exact List.mem_map_of_mem hx)

/-- Is a text a mailbox? -/
def mailL (l : List UInt8) : Bool :=
  l.contains 64 && (!(l.takeWhile (· != 64)).isEmpty && allL (l.takeWhile (· != 64)) (wordB [46, 33, 35, 36, 37, 38, 39, 42, 43, 47, 61, 63, 94, 95, 96, 123, 124, 125, 126, 45])
    && (splitC 46 (l.dropWhile (· != 64)).tail).all partB)

theorem all_part (P : List ByteArray) (k : Nat) (h : k < P.length) : (P.take (k + 1)).all (fun s => partB s.data.toList) = ((P.take k).all (fun s => partB s.data.toList) && partB P[k].data.toList) := by
  rw [List.take_succ_eq_append_getElem h, List.all_append]; simp

theorem mail_no (P : List ByteArray) (k : Nat) (h : k < P.length) (hx : partB P[k].data.toList = false) : (P.map (·.data.toList)).all partB = false := by
  rw [List.all_eq_false]
  exact ⟨P[k].data.toList, List.mem_map_of_mem (List.getElem_mem h), by rw [hx]; decide⟩
set_option maxHeartbeats 400000 in
theorem mailbox_any (s : ByteArray) (w : World) (hm : MaxAt w) (hs : s.size ≤ 1000000) :
    Calls Tryz.prog 110 #[.string s] w fun e w' => e = .returned (.bool (mailL s.data.toList)) ∧ Bl w w' := by
  have eg := enters_of Tryz.func231 (by kernel_rfl) rfl
  cases hc : s.data.toList.contains 64 with
  | false =>
    have HC := cut_no s ⟨#[64]⟩ 64 rfl hc w hm hs
    have R := Lib.hid (show mailL s.data.toList = false by unfold mailL; rw [hc]; rfl)
    clear hc
    go_enter Tryz.func110, Tryz.ntmps110
    go_wp2_with (first | (go_at_call 105; (with_reducible refine HC.mono ?_); rintro e w1 ⟨rfl, hb1⟩))
    go_ret
    exact ⟨ret_bool (by rw [R.out]), hb1⟩
  | true =>
    have HC0 := cut_yes s ⟨#[64]⟩ 64 rfl hc w hm hs
    obtain ⟨A, hA⟩ : ∃ A, headP 64 s = A := ⟨_, rfl⟩
    obtain ⟨B, hB⟩ : ∃ B, tailP 64 s = B := ⟨_, rfl⟩
    rw [hA, hB] at HC0
    have HC := HC0
    clear HC0
    have hAd : s.data.toList.takeWhile (· != 64) = A.data.toList := by rw [← hA]; rfl
    have hBd : (s.data.toList.dropWhile (· != 64)).tail = B.data.toList := by rw [← hB]; rfl
    have hAs : A.size ≤ 1000000 := by rw [← size_len, ← hAd]; have := (List.takeWhile_sublist (· != (64 : UInt8)) (l := s.data.toList)).length_le; rw [size_len] at this; omega
    have hBs : B.size ≤ 1000000 := by
      rw [← size_len, ← hBd, List.length_tail]; have := (List.dropWhile_sublist (· != (64 : UInt8)) (l := s.data.toList)).length_le; rw [size_len] at this; omega
    obtain ⟨ws, hws⟩ : ∃ ws : List UInt8, ws = [46, 33, 35, 36, 37, 38, 39, 42, 43, 47, 61, 63, 94, 95, 96, 123, 124, 125, 126, 45] := ⟨_, rfl⟩
    have R := Lib.hid (show mailL s.data.toList = (!A.data.toList.isEmpty && allL A.data.toList (wordB ws) && (splitC 46 B.data.toList).all partB) by
      unfold mailL; rw [hc, hAd, hBd, hws]; rfl)
    clear hc hA hB hAd hBd
    by_cases h0 : A.size = 0
    · obtain rfl := str_nil h0
      go_enter Tryz.func110, Tryz.ntmps110
      go_wp2_with (first | (go_at_call 105; (with_reducible refine HC.mono ?_); rintro e w1 ⟨rfl, hb1⟩))
      go_ret
      exact ⟨ret_bool (by rw [R.out]; rfl), hb1⟩
    · have hp : 0 < A.size := by omega
      have e1 : A.toList.isEmpty = false := isEmpty_false hp
      have E1 := Lib.hid (data_isEmpty_false hp)
      have HAll : ∀ (W : World) (a : Addr), W.cell? a = some (.string ⟨#[46, 33, 35, 36, 37, 38, 39, 42, 43, 47, 61, 63, 94, 95, 96, 123, 124, 125, 126, 45]⟩) → Calls Tryz.prog 166 #[.string A, .func (.func 231) #[] #[.pointer (some a)]] W fun e w' => e = .returned (.bool (allL A.data.toList (wordB ws))) ∧ W = w' := by
        intro W a hc
        have := fnB_word _ a W hc
        rw [hws]
        exact all_any _ _ _ _ _ (by omega) this eg
      clear h0 hws
      cases ha : allL A.data.toList (wordB ws) with
      | false =>
        rw [ha] at HAll
        go_enter Tryz.func110, Tryz.ntmps110
        go_wp2_with (first | (go_at_call 105; (with_reducible refine HC.mono ?_); rintro e w1 ⟨rfl, hb1⟩) | (go_at_call 167; (with_reducible refine (word_any _ _).mono ?_); rintro e w' ⟨rfl, rfl⟩) | (go_at_call 166; (refine (HAll _ _ (by simp)).mono ?_); rintro e w' ⟨rfl, rfl⟩))
        go_ret
        exact ⟨ret_bool (by rw [R.out, ha]; simp), hb1.alloc _⟩
      | true =>
        rw [ha] at HAll
        have HA := Lib.hid ha
        clear ha
        go_enter Tryz.func110, Tryz.ntmps110
        go_wp2_with (first | (go_at_call 105; (with_reducible refine HC.mono ?_); rintro e w1 ⟨rfl, hb1⟩) | (go_at_call 167; (with_reducible refine (word_any _ _).mono ?_); rintro e w' ⟨rfl, rfl⟩) | (go_at_call 166; (refine (HAll _ _ (by simp)).mono ?_); rintro e w' ⟨rfl, rfl⟩) | (go_at_call 169; (refine (split_is _ _ 46 rfl _ (hm.bl (hb1.alloc _)) hBs).mono ?_); rintro e w2 ⟨Bk, P, hP, rfl, hb2, hrow, hPl, hPs⟩; have HP := Lib.hid hP; clear hP; have HS := Lib.hid hPs; clear hPs))
        have hbw := (hb1.alloc _).trans hb2
        go_loopw [29] (fun i wr => ∃ k : Nat, k ≤ P.length ∧ i = .int .i64 k ∧ Bl w2 wr ∧ Hid ((P.take k).all (fun s => partB s.data.toList) = true)) (fun i _ => P.length - (intOf i).toNat)
        case atStart => exact ⟨0, Nat.zero_le _, rfl, Bl.refl _, Lib.hid (by simp)⟩
        case round =>
          obtain ⟨k, hk, rfl, hb, hall⟩ := hrel
          by_cases hlt : k < P.length
          · obtain ⟨x, hx⟩ : ∃ x, P[k] = x := ⟨_, rfl⟩
            have hcell := (hrow.bl hb).out k hlt
            rw [hx] at hcell
            have hxs : x.size ≤ 140737488351232 := by have := HS.out x (by rw [← hx]; exact List.getElem_mem hlt); omega
            have HP2 := fun W => part_any x W hxs
            have H1 := Lib.hid (all_part P k hlt)
            have X := Lib.hid hx
            clear hx
            cases hpb : partB x.data.toList with
            | true =>
              rw [hpb] at HP2
              have HB := Lib.hid hpb
              clear hpb
              go_wp2_with (first | (go_at_call 170; (with_reducible refine (HP2 _).mono ?_); rintro e w3 ⟨rfl, hb3⟩))
              go_roundw
              case rel => exact ⟨k + 1, by omega, by go_num, hb.trans hb3, Lib.hid (by rw [H1.out, hall.out, X.out, HB.out]; rfl)⟩
              case measure => simp [intOf]; omega
            | false =>
              rw [hpb] at HP2
              have HB := Lib.hid hpb
              clear hpb
              go_wp2_with (first | (go_at_call 170; (with_reducible refine (HP2 _).mono ?_); rintro e w3 ⟨rfl, hb3⟩))
              go_ret
              exact ⟨ret_bool (by rw [R.out, ← HP.out, mail_no P k hlt (by rw [X.out]; exact HB.out)]; simp), (hbw.trans hb).trans hb3⟩
          · go_wp2
            go_ret
            refine ⟨ret_bool ?_, hbw.trans hb⟩
            have h := hall.out
            rw [List.take_of_length_le (by omega)] at h
            rw [R.out, E1.out, HA.out, ← HP.out, List.all_map]
            exact h.symm

end Go.Proofs.YtjocbifjmchbcaaGreatDoor
/- The contract of span.Auto. -/
namespace Go.Proofs.YtjocbifjmchbcaaGreatDoor
open Go.RowKit

/-- What stands ahead of the first ">", behind the first byte. -/
def innerL (l : List UInt8) : List UInt8 := (l.takeWhile (· != 62)).tail
/-- An address, its text, and how long all of it is. -/
def autoL (l : List UInt8) : List UInt8 × List UInt8 × Nat :=
  if l.contains 62 && l.headD 0 == 60 then
    if addressL (innerL l) then (innerL l, innerL l, (l.takeWhile (· != 62)).length + 1)
    else if mailL (innerL l) then ([109, 97, 105, 108, 116, 111, 58] ++ innerL l, innerL l, (l.takeWhile (· != 62)).length + 1)
    else ([], [], 0)
  else ([], [], 0)
def autoV (l : List UInt8) : Value := .tuple #[.string (mkB (autoL l).1), .string (mkB (autoL l).2.1), .int .i64 (autoL l).2.2]

theorem autoV_no {l : List UInt8} (h : (l.contains 62 && l.headD 0 == 60) = false) : autoV l = .tuple #[.string ⟨#[]⟩, .string ⟨#[]⟩, .int .i64 0] := by
  unfold autoV autoL; rw [if_neg (by rw [h]; decide)]; rfl

set_option maxHeartbeats 400000 in
theorem auto_any (s : ByteArray) (w : World) (hm : MaxAt w) (hs : s.size ≤ 1000000) :
    Calls Tryz.prog 69 #[.string s] w fun e w' => e = .returned (autoV s.data.toList) ∧ Bl w w' := by
  cases hc : s.data.toList.contains 62 with
  | false =>
    have HI := fun W => idx_no s 62 62 rfl hc W
    have R := Lib.hid (autoV_no (l := s.data.toList) (by rw [hc]; rfl))
    clear hc
    go_enter Tryz.func69, Tryz.ntmps69
    go_wp2_with (first | (go_at_call 107; (with_reducible refine (HI _).mono ?_); rintro e w' ⟨rfl, rfl⟩))
    go_ret3
    exact ⟨by rw [R.out]; rfl, Bl.refl _⟩
  | true =>
    obtain ⟨k, hk⟩ : ∃ k, (s.data.toList.takeWhile (· != 62)).length = k := ⟨_, rfl⟩
    have HI := fun W => idx_yes s 62 62 rfl k hc hk W
    have hks : k < s.size := by rw [← hk, ← size_len]; exact takeWhile_lt hc
    have hp : 0 < s.size := by omega
    have h0 := headD_at s hp
    have hne := ne_of_byte (b := s[0]) (c := 60) 60 rfl
    cases hh : (s.data.toList.headD 0 == 60) with
    | false =>
      have R := Lib.hid (autoV_no (l := s.data.toList) (by rw [hh]; simp))
      have e1 : ((s[0].toNat : Int) != 60) = true := by rw [hne, ← h0, hh]; rfl
      clear hc hk hh h0 hne
      go_enter Tryz.func69, Tryz.ntmps69
      go_wp2_with (first | (go_at_call 107; (with_reducible refine (HI _).mono ?_); rintro e w' ⟨rfl, rfl⟩))
      go_ret3
      exact ⟨by rw [R.out]; rfl, Bl.refl _⟩
    | true =>
      have e1 : ((s[0].toNat : Int) != 60) = false := by rw [hne, ← h0, hh]; rfl
      have hk1 : 1 ≤ k := by
        rw [← hk]
        have hn : s.data.toList ≠ [] := by intro e; rw [e] at hc; cases hc
        obtain ⟨a, r, e⟩ := List.exists_cons_of_ne_nil hn
        rw [e] at hh ⊢
        have : a = 60 := by simpa using hh
        subst this
        simp
      obtain ⟨T, hT⟩ : ∃ T, s.extract 1 k = T := ⟨_, rfl⟩
      have hTd : innerL s.data.toList = T.data.toList := by
        rw [← hT, Lib.extract_data]
        unfold innerL
        have : s.data.toList.takeWhile (· != 62) = s.data.toList.take k := by rw [← hk, takeWhile_take]
        rw [this, ← List.drop_one, List.drop_take]
      have hTs : T.size ≤ 1000000 := by rw [← hT, ByteArray.size_extract]; omega
      have R := Lib.hid (show autoV s.data.toList = .tuple (if addressL T.data.toList then #[.string T, .string T, .int .i64 ((k + 1 : Nat) : Int)]
          else if mailL T.data.toList then #[.string ((⟨#[109, 97, 105, 108, 116, 111, 58]⟩ : ByteArray) ++ T), .string T, .int .i64 ((k + 1 : Nat) : Int)] else #[.string ⟨#[]⟩, .string ⟨#[]⟩, .int .i64 0]) by
        unfold autoV autoL
        rw [if_pos (by rw [hc, hh]; rfl), hTd, hk]
        split
        · rw [mkB_self]
        · split
          · have : mkB ([109, 97, 105, 108, 116, 111, 58] ++ T.data.toList) = (⟨#[109, 97, 105, 108, 116, 111, 58]⟩ : ByteArray) ++ T := by
              refine str_eq ?_
              simp [mkB]
            rw [this, mkB_self]
          · rfl)
      have HA := fun W hW => address_any T W hW hTs
      have HM := fun W hW => mailbox_any T W hW hTs
      clear hc hk hh h0 hne hTd
      cases ha : addressL T.data.toList with
      | true =>
        rw [ha] at HA
        go_enter Tryz.func69, Tryz.ntmps69
        go_wp2_with (first | (go_at_call 107; (with_reducible refine (HI _).mono ?_); rintro e w' ⟨rfl, rfl⟩) | (go_at_call 109; (with_reducible refine (HA _ hm).mono ?_); rintro e w1 ⟨rfl, hb1⟩))
        go_ret3
        exact ⟨by rw [R.out, ha]; rfl, hb1⟩
      | false =>
        rw [ha] at HA
        cases hb : mailL T.data.toList with
        | true =>
          rw [hb] at HM
          go_enter Tryz.func69, Tryz.ntmps69
          go_wp2_with (first | (go_at_call 107; (with_reducible refine (HI _).mono ?_); rintro e w' ⟨rfl, rfl⟩) | (go_at_call 109; (with_reducible refine (HA _ hm).mono ?_); rintro e w1 ⟨rfl, hb1⟩) | (go_at_call 110; (with_reducible refine (HM _ (hm.bl hb1)).mono ?_); rintro e w2 ⟨rfl, hb2⟩))
          go_ret3
          exact ⟨by rw [R.out, ha, hb]; rfl, hb1.trans hb2⟩
        | false =>
          rw [hb] at HM
          go_enter Tryz.func69, Tryz.ntmps69
          go_wp2_with (first | (go_at_call 107; (with_reducible refine (HI _).mono ?_); rintro e w' ⟨rfl, rfl⟩) | (go_at_call 109; (with_reducible refine (HA _ hm).mono ?_); rintro e w1 ⟨rfl, hb1⟩) | (go_at_call 110; (with_reducible refine (HM _ (hm.bl hb1)).mono ?_); rintro e w2 ⟨rfl, hb2⟩))
          go_ret3
          exact ⟨by rw [R.out, ha, hb]; rfl, hb1.trans hb2⟩

end Go.Proofs.YtjocbifjmchbcaaGreatDoor
