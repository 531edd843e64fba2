/- Small words on worlds: what a call leaves as it was; the library's variables. -/
import Derived.Test.YtgamlckdjfjobaaDoorRows
import Derived.WalkKit
import Derived.WalkSpells
import Derived.WalkLawsBesides
import Derived.Lib.Hide
import Derived.Below
namespace Go.Proofs.YtgamlckdjfjobaaDoor
open Go.RowKit

/-- All that lay in w lies in w' as it did. -/
structure Bl (w w' : World) : Prop where mk :: (out : Below w.heap.size w w')
theorem Bl.refl (w : World) : Bl w w := ⟨Below.refl _ _⟩
theorem Bl.trans {a b c : World} (h : Bl a b) (k : Bl b c) : Bl a c :=
  ⟨h.out.trans ⟨k.out.os, k.out.tape, k.out.output, k.out.size, fun i hi => k.out.block i (Nat.lt_of_lt_of_le hi h.out.size)⟩⟩
theorem Bl.alloc {a b : World} (h : Bl a b) (o : Obj) : Bl a (b.alloc o) := ⟨h.out.alloc h.out.size o⟩
theorem Bl.drew {a b : World} (h : Bl a b) : Bl a b.drew := ⟨⟨h.out.os, h.out.tape, h.out.output, h.out.size, h.out.block⟩⟩
theorem Bl.drewN {a b : World} (h : Bl a b) (n : Nat) : Bl a (b.drewN n) := ⟨⟨h.out.os, h.out.tape, h.out.output, h.out.size, h.out.block⟩⟩
theorem Bl.of_eq {a b : World} (h : a = b) : Bl a b := h ▸ Bl.refl a
theorem Bl.of_drewN {a b : World} (h : ∃ n, b = a.drewN n) : Bl a b := by obtain ⟨n, rfl⟩ := h; exact (Bl.refl a).drewN n
theorem Bl.of_iter {a b : World} (h : b.heap = a.heap ∧ b.os = a.os ∧ b.tape = a.tape ∧ b.output = a.output) : Bl a b :=
  ⟨⟨h.2.1, h.2.2.1, h.2.2.2, by rw [h.1]; exact Nat.le_refl _, fun i _ => by rw [h.1]⟩⟩
theorem Bl.cell {a b : World} (h : Bl a b) {p : Addr} {v : Value} (hc : a.cell? p = some v) : b.cell? p = some v :=
  (h.out.cell (World.block_lt_of_cell? a p hc)).trans hc
theorem Bl.size {a b : World} (h : Bl a b) : a.heap.size ≤ b.heap.size := h.out.size
theorem Bl.block {a b : World} (h : Bl a b) {i : Nat} (hi : i < a.heap.size) : b.heap[i]? = a.heap[i]? := h.out.block i hi

/-- The library's variable MaxLen holds some number. -/
structure MaxAt (w : World) : Prop where mk :: (out : ∃ m, w.cell? ⟨0, 0, none⟩ = some (.int .i64 m))
theorem MaxAt.bl {a b : World} (h : MaxAt a) (k : Bl a b) : MaxAt b := by obtain ⟨m, hm⟩ := h.out; exact ⟨m, k.cell hm⟩
theorem MaxAt.drew {a : World} (h : MaxAt a) : MaxAt a.drew := ⟨h.out⟩
theorem MaxAt.drewN {a : World} (h : MaxAt a) (n : Nat) : MaxAt (a.drewN n) := ⟨h.out⟩
theorem MaxAt.alloc {a : World} (h : MaxAt a) (o : Obj) : MaxAt (a.alloc o) := h.bl ((Bl.refl a).alloc o)

theorem ret_bool {a b : Bool} (h : a = b) : Ending.returned (.bool a) = .returned (.bool b) := by rw [h]
theorem ret_int {k : IntKind} {a b : Int} (h : a = b) : Ending.returned (.int k a) = .returned (.int k b) := by rw [h]
theorem ret_str {a b : ByteArray} (h : a = b) : Ending.returned (.string a) = .returned (.string b) := by rw [h]
theorem str_eq {a b : ByteArray} (h : a.data.toList = b.data.toList) : a = b := by
  obtain ⟨⟨a⟩⟩ := a; obtain ⟨⟨b⟩⟩ := b; simp at h; rw [h]
theorem str_mk (s : ByteArray) : (⟨s.data.toList.toArray⟩ : ByteArray) = s := by obtain ⟨⟨a⟩⟩ := s; rfl

end Go.Proofs.YtgamlckdjfjobaaDoor
