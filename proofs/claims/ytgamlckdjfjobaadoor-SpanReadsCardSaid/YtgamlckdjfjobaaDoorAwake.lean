/- The contract of incipitlaw12.awake: the document's examples. -/
import Derived.Test.YtgamlckdjfjobaaDoorRaw
namespace Go.Proofs.YtgamlckdjfjobaaDoor
open Go.RowKit

theorem code_is (s : ByteArray) (v : Value) (h : codeV s.data.toList = v) (hs : s.size ≤ 1000000) (w : World) (hm : MaxAt w) :
    Calls Tryd.prog 10 #[.string s] w fun e w' => e = .returned v ∧ Bl w w' := by
  refine (code_any s w hm hs).mono ?_
  rintro e w' ⟨rfl, hb⟩
  exact ⟨by rw [h], hb⟩
theorem auto_is (s : ByteArray) (v : Value) (h : autoV s.data.toList = v) (hs : s.size ≤ 1000000) (w : World) (hm : MaxAt w) :
    Calls Tryd.prog 12 #[.string s] w fun e w' => e = .returned v ∧ Bl w w' := by
  refine (auto_any s w hm hs).mono ?_
  rintro e w' ⟨rfl, hb⟩
  exact ⟨by rw [h], hb⟩
theorem raw_is (s : ByteArray) (n : Int) (h : (rawL s.data.toList : Int) = n) (hs : s.size ≤ 1000000) (w : World) (hm : MaxAt w) :
    Calls Tryd.prog 14 #[.string s] w fun e w' => e = .returned (.int .i64 n) ∧ Bl w w' := by
  refine (raw_any s w hm hs).mono ?_
  rintro e w' ⟨rfl, hb⟩
  exact ⟨by rw [h], hb⟩
theorem run_isI (s : ByteArray) (n : Int) (h : (runL s.data.toList : Int) = n) (hs : s.size ≤ 1000000) (w : World) :
    Calls Tryd.prog 16 #[.string s] w fun e w' => e = .returned (.int .i64 n) ∧ Bl w w' := by
  refine (run_any s w (by omega)).mono ?_
  rintro e w' ⟨rfl, hb⟩
  exact ⟨by rw [h], hb⟩

set_option maxRecDepth 100000 in
theorem ex1 : codeV [96, 96, 32, 97, 96, 98, 32, 96, 96] = .tuple #[.string ⟨#[97, 96, 98]⟩, .int .i64 9] := by rfl
set_option maxRecDepth 100000 in
theorem ex2 : autoV [60, 97, 58, 98, 62] = .tuple #[.string ⟨#[]⟩, .string ⟨#[]⟩, .int .i64 0] := by rfl
set_option maxRecDepth 100000 in
theorem ex3 : autoV [60, 120, 64, 121, 46, 122, 62] = .tuple #[.string ⟨#[109, 97, 105, 108, 116, 111, 58, 120, 64, 121, 46, 122]⟩, .string ⟨#[120, 64, 121, 46, 122]⟩, .int .i64 7] := by rfl
set_option maxRecDepth 100000 in
theorem ex4 : rawL [60, 33, 45, 45, 62] = 5 := by rfl
set_option maxRecDepth 100000 in
theorem ex5 : runL [97, 97, 98] = 2 := by rfl

set_option maxRecDepth 100000 in
set_option maxHeartbeats 1000000 in
theorem awake_any (w : World) (hm : MaxAt w) :
    Calls Tryd.prog 9 #[] w fun e w' => e = .returned (.bool true) ∧ Bl w w' := by
  have H1 := code_is ⟨#[96, 96, 32, 97, 96, 98, 32, 96, 96]⟩ _ ex1 (by decide)
  have H2 := auto_is ⟨#[60, 97, 58, 98, 62]⟩ _ ex2 (by decide)
  have H3 := auto_is ⟨#[60, 120, 64, 121, 46, 122, 62]⟩ _ ex3 (by decide)
  have H4 := raw_is ⟨#[60, 33, 45, 45, 62]⟩ 5 (by rw [show rawL (⟨#[60, 33, 45, 45, 62]⟩ : ByteArray).data.toList = 5 from ex4]; rfl) (by decide)
  have H5 := run_isI ⟨#[97, 97, 98]⟩ 2 (by rw [show runL (⟨#[97, 97, 98]⟩ : ByteArray).data.toList = 2 from ex5]; rfl) (by decide)
  go_enter Tryd.func9, Tryd.ntmps9
  go_wp2_with fail
  refine (H1 _ hm).mono ?_
  rintro e w1 ⟨rfl, hb1⟩
  go_wp2_with fail
  refine (H2 _ (hm.bl hb1)).mono ?_
  rintro e w2 ⟨rfl, hb2⟩
  have hb12 := hb1.trans hb2
  clear hb1 hb2
  go_wp2_with fail
  refine (H3 _ (hm.bl hb12)).mono ?_
  rintro e w3 ⟨rfl, hb3⟩
  have hb13 := hb12.trans hb3
  clear hb12 hb3
  go_wp2_with fail
  refine (H4 _ (hm.bl hb13)).mono ?_
  rintro e w4 ⟨rfl, hb4⟩
  have hb14 := hb13.trans hb4
  clear hb13 hb4
  go_wp2_with fail
  refine (H5 _).mono ?_
  rintro e w5 ⟨rfl, hb5⟩
  have hb15 := hb14.trans hb5
  clear hb14 hb5
  go_wp2
  go_ret
  exact ⟨rfl, hb15⟩

end Go.Proofs.YtgamlckdjfjobaaDoor
