/- Words, laws and walks that the card stands on, joined out of several texts: part 1. -/
import Derived.Lib.Strings
import Derived.Test.YtjocbifjmchbcaaGreatDoorProg
import Derived.WalkKit
import Derived.WalkSpells
import Derived.WalkLawsBesides
import Derived.Lib.Hide
import Derived.Below
import Derived.OrdersHeld
import Derived.RegionTactic
import Derived.Deep.RegionHeld3
import Derived.Deep.AppendLies
import Derived.Deep.QuietTactic
import Derived.BigQuiet
import Derived.Outline
import Derived.Maps.OwnOps
import Derived.Maps.OwnSet
import Derived.DeepKeys4
import Derived.Deep.DeepCutAuto
import Derived.Deep.RegionLaw
import Derived.OwnWalk
/- Plain words on a text's parts: nodes, pieces, pairs of runs: no program. -/
namespace Go.Proofs.YtjocbifjmchbcaaGreatDoor

/-! ### nodes -/
/-- Nodes side by side: each is a kind, two texts and the nodes within it. -/
inductive Fo where
  | nil
  | cons (k : Nat) (s t : List UInt8) (l r : Fo)
  deriving DecidableEq, Inhabited

def Fo.app : Fo → Fo → Fo
  | .nil, g => g
  | .cons k s t l r, g => .cons k s t l (r.app g)
def Fo.one (k : Nat) (s t : List UInt8) (l : Fo) : Fo := .cons k s t l .nil
def Fo.snoc (f : Fo) (k : Nat) (s t : List UInt8) (l : Fo) : Fo := f.app (.one k s t l)
def Fo.len : Fo → Nat
  | .nil => 0
  | .cons _ _ _ _ r => r.len + 1
/-- Lays a node behind others: a Text that is empty is left out, one behind another is joined to it. -/
def Fo.lay : Fo → Nat → List UInt8 → List UInt8 → Fo → Fo
  | .nil, k, s, t, l => if k == 14 && s.isEmpty then .nil else .one k s t l
  | .cons k0 s0 t0 l0 .nil, k, s, t, l =>
    if k == 14 then if s.isEmpty then .cons k0 s0 t0 l0 .nil else if k0 == 14 then .cons k0 (s0 ++ s) t0 l0 .nil else .cons k0 s0 t0 l0 (.one k s t l)
    else .cons k0 s0 t0 l0 (.one k s t l)
  | .cons k0 s0 t0 l0 (.cons k1 s1 t1 l1 r), k, s, t, l => .cons k0 s0 t0 l0 ((Fo.cons k1 s1 t1 l1 r).lay k s t l)
/-- Parts, with one Text where several stand side by side, laid behind others. -/
def Fo.tidyOn : Fo → Fo → Fo
  | out, .nil => out
  | out, .cons k s t l r => (out.lay k s t (Fo.nil.tidyOn l)).tidyOn r
termination_by structural _ f => f
def tidyL (f : Fo) : Fo := Fo.nil.tidyOn f
/-- What can be read of parts. -/
def plainL : Fo → List UInt8
  | .nil => []
  | .cons k s _ l r => (if k == 14 || k == 17 then s else if k == 15 || k == 16 then [32] else []) ++ plainL l ++ plainL r

/-! ### runs and pairs -/
structure Rn where
  c : UInt8
  n : Nat
  o : Bool
  cl : Bool
  deriving DecidableEq, Inhabited
def fitsR (a b : Rn) : Bool := if !(a.o && a.cl || b.o && b.cl) || (a.n + b.n) % 3 != 0 then true else a.n % 3 == 0 && b.n % 3 == 0
/-- Where the matcher is: the place, the runs ahead of it that are not done (the nearest first), the signs left, up to where nothing is to be found, what was found. -/
structure Ms where
  k : Nat
  stk : List Nat
  left : List Nat
  bot : List ((UInt8 × Bool × Nat) × Int)
  out : List (Nat × Nat × Nat)
def keyR (l : List Rn) (m : Ms) : UInt8 × Bool × Nat :=
  let r := l.getD m.k default
  if r.c == 126 then (r.c, false, m.left.getD m.k 0) else (r.c, r.o, r.n % 3)
def lowR (l : List Rn) (m : Ms) : Int := (m.bot.lookup (keyR l m)).getD (-1)
def opensR (l : List Rn) (m : Ms) (j : Nat) : Bool :=
  let a := l.getD j default; let b := l.getD m.k default
  a.c == b.c && a.o && decide (1 ≤ m.left.getD j 0) && (if b.c == 126 then m.left.getD j 0 == m.left.getD m.k 0 else fitsR a b)
/-- The runs that are not done, from the nearest that fits on. -/
def seekR (l : List Rn) (m : Ms) : List Nat → List Nat
  | [] => []
  | j :: t => if (j : Int) ≤ lowR l m then [] else if opensR l m j then j :: t else seekR l m t
def sizeR (l : List Rn) (m : Ms) (j : Nat) : Nat :=
  if (l.getD m.k default).c == 126 then m.left.getD m.k 0 else min (min (m.left.getD m.k 0) (m.left.getD j 0)) 2
/-- One round; none: all is done. -/
def roundR (l : List Rn) (m : Ms) : Option Ms :=
  if m.k < l.length then
    let r := l.getD m.k default
    if !r.cl || m.left.getD m.k 0 == 0 then some { m with k := m.k + 1, stk := m.k :: m.stk }
    else match seekR l m m.stk with
      | j :: t =>
        let n := sizeR l m j
        let gone := m.stk.takeWhile (· != j)
        let left := gone.foldl (fun e x => e.set x 0) m.left
        let left := (left.set j (left.getD j 0 - n)).set m.k (m.left.getD m.k 0 - n)
        some { m with stk := if left.getD j 0 == 0 then t else j :: t, left := left, out := m.out ++ [(j, m.k, n)] }
      | [] =>
        let bot := (keyR l m, (match m.stk with | [] => (-1 : Int) | a :: _ => (a : Int))) :: m.bot
        if r.o then some { m with k := m.k + 1, stk := m.k :: m.stk, bot := bot }
        else some { m with k := m.k + 1, left := m.left.set m.k 0, bot := bot }
  else none
def roundsR (l : List Rn) : Nat → Ms → Ms
  | 0, m => m
  | f + 1, m => match roundR l m with
    | none => m
    | some m' => roundsR l f m'
def firstR (l : List Rn) : Ms := { k := 0, stk := [], left := l.map fun r => if r.n < 1 || decide (r.n > 1073741824) then 0 else r.n, bot := [], out := [] }
def matchL (l : List Rn) : List (Nat × Nat × Nat) := (roundsR l (l.length + (l.map (·.n)).sum + 1) (firstR l)).out

/-! ### pieces -/
inductive Pc where
  | node (k : Nat) (s t : List UInt8) (l : Fo)
  | run (r : Rn)
  | op (img live : Bool) (at_ : Nat)
  deriving DecidableEq, Inhabited
def Pc.text (s : List UInt8) : Pc := .node 14 s [] .nil
def opS (img : Bool) : List UInt8 := if img then [33, 91] else [91]
def runsL : List Pc → List Rn
  | [] => []
  | .run r :: t => r :: runsL t
  | _ :: t => runsL t
def kindR (c : UInt8) (n : Nat) : Nat := if c == 126 then 23 else if n == 2 then 19 else 18
/-- What a run's signs are used for: by how many it closes, which it opens, how many are left. -/
structure Us where
  closes : Nat
  opens : List Nat
  left : Int
  deriving DecidableEq, Inhabited
def useL (l : List Rn) (p : List (Nat × Nat × Nat)) (k : Nat) : Us :=
  { closes := (p.filter fun x => x.2.1 == k).length
    opens := (p.filter fun x => x.1 == k).map fun x => kindR (l.getD k default).c x.2.2
    left := ((l.getD k default).n : Int) - ((p.filter fun x => x.1 == k).map fun x => (x.2.2 : Int)).sum - ((p.filter fun x => x.2.1 == k).map fun x => (x.2.2 : Int)).sum }
def usageL (l : List Rn) : List Us := (List.range l.length).map (useL l (matchL l))
/-- Nodes that are open: the innermost first. -/
abbrev Bs := List (Nat × Fo)
def Bs.add (b : Bs) (k : Nat) (s t : List UInt8) (l : Fo) : Bs := match b with
  | [] => []
  | (k0, f) :: r => (k0, f.snoc k s t l) :: r
def Bs.endL (b : Bs) : Bs := match b with
  | [] => []
  | (k, f) :: r => Bs.add r k [] [] f
def Bs.ends : Nat → Bs → Bs
  | 0, b => b
  | n + 1, b => Bs.ends n b.endL
def Bs.runL (b : Bs) (r : Rn) (u : Us) : Bs :=
  u.opens.reverse.foldl (fun b k => (k, Fo.nil) :: b) ((b.ends u.closes).add 14 (List.replicate u.left.toNat r.c) [] .nil)
def buildL : List Pc → List Us → Bs → Bs
  | [], _, b => b
  | .node k s t l :: r, u, b => buildL r u (b.add k s t l)
  | .op img _ _ :: r, u, b => buildL r u (b.add 14 (opS img) [] .nil)
  | .run x :: r, u, b => buildL r u.tail (b.runL x (u.headD default))
def nodesL (l : List Pc) : Fo := ((buildL l (usageL (runsL l)) [(0, .nil)]).getLast?.map (·.2)).getD .nil
end Go.Proofs.YtjocbifjmchbcaaGreatDoor
/- Small words on worlds: what a call leaves as it was; the library's variables. -/
namespace Go.Proofs.YtjocbifjmchbcaaGreatDoor
open Go.RowKit

/-- All that lay in w lies in w' as it did. -/
structure Bl (w w' : World) : Prop where mk :: (out : Below w.heap.size w w')
theorem Bl.refl (w : World) : Bl w w := ⟨Below.refl _ _⟩
theorem Bl.trans {a b c : World} (h : Bl a b) (k : Bl b c) : Bl a c :=
  ⟨h.out.trans ⟨k.out.os, k.out.tape, k.out.output, k.out.size, fun i hi => k.out.block i (Nat.lt_of_lt_of_le hi h.out.size)⟩⟩
theorem Bl.alloc {a b : World} (h : Bl a b) (o : Obj) : Bl a (b.alloc o) := ⟨h.out.alloc h.out.size o⟩
theorem Bl.drew {a b : World} (h : Bl a b) : Bl a b.drew := ⟨⟨h.out.os, h.out.tape, h.out.output, h.out.size, h.out.block⟩⟩
theorem Bl.drewN {a b : World} (h : Bl a b) (n : Nat) : Bl a (b.drewN n) := ⟨⟨h.out.os, h.out.tape, h.out.output, h.out.size, h.out.block⟩⟩
theorem Bl.of_eq {a b : World} (h : a = b) : Bl a b := h ▸ Bl.refl a
theorem Bl.of_drewN {a b : World} (h : ∃ n, b = a.drewN n) : Bl a b := by obtain ⟨n, rfl⟩ := h; exact (Bl.refl a).drewN n
theorem Bl.of_iter {a b : World} (h : b.heap = a.heap ∧ b.os = a.os ∧ b.tape = a.tape ∧ b.output = a.output) : Bl a b :=
  ⟨⟨h.2.1, h.2.2.1, h.2.2.2, by rw [h.1]; exact Nat.le_refl _, fun i _ => by rw [h.1]⟩⟩
theorem Bl.cell {a b : World} (h : Bl a b) {p : Addr} {v : Value} (hc : a.cell? p = some v) : b.cell? p = some v :=
  (h.out.cell (World.block_lt_of_cell? a p hc)).trans hc
theorem Bl.size {a b : World} (h : Bl a b) : a.heap.size ≤ b.heap.size := h.out.size
theorem Bl.block {a b : World} (h : Bl a b) {i : Nat} (hi : i < a.heap.size) : b.heap[i]? = a.heap[i]? := h.out.block i hi

/-- The library's variable MaxLen holds some number. -/
structure MaxAt (w : World) : Prop where mk :: (out : ∃ m, w.cell? ⟨2, 0, none⟩ = some (.int .i64 m))
theorem MaxAt.bl {a b : World} (h : MaxAt a) (k : Bl a b) : MaxAt b := by obtain ⟨m, hm⟩ := h.out; exact ⟨m, k.cell hm⟩
theorem MaxAt.drew {a : World} (h : MaxAt a) : MaxAt a.drew := ⟨h.out⟩
theorem MaxAt.drewN {a : World} (h : MaxAt a) (n : Nat) : MaxAt (a.drewN n) := ⟨h.out⟩
theorem MaxAt.alloc {a : World} (h : MaxAt a) (o : Obj) : MaxAt (a.alloc o) := h.bl ((Bl.refl a).alloc o)

theorem ret_bool {a b : Bool} (h : a = b) : Ending.returned (.bool a) = .returned (.bool b) := by rw [h]
theorem ret_int {k : IntKind} {a b : Int} (h : a = b) : Ending.returned (.int k a) = .returned (.int k b) := by rw [h]
theorem ret_str {a b : ByteArray} (h : a = b) : Ending.returned (.string a) = .returned (.string b) := by rw [h]
theorem str_eq {a b : ByteArray} (h : a.data.toList = b.data.toList) : a = b := by
  obtain ⟨⟨a⟩⟩ := a; obtain ⟨⟨b⟩⟩ := b; simp at h; rw [h]
theorem str_mk (s : ByteArray) : (⟨s.data.toList.toArray⟩ : ByteArray) = s := by obtain ⟨⟨a⟩⟩ := s; rfl

def mkB (l : List UInt8) : ByteArray := ⟨l.toArray⟩
theorem mkB_data (l : List UInt8) : (mkB l).data.toList = l := rfl
theorem mkB_size (l : List UInt8) : (mkB l).size = l.length := by simp [mkB, ByteArray.size]
theorem mkB_self (s : ByteArray) : mkB s.data.toList = s := str_mk s

end Go.Proofs.YtjocbifjmchbcaaGreatDoor
/- How nodes lie in memory: a list of nodes, and a slice that holds it. -/
namespace Go.Proofs.YtjocbifjmchbcaaGreatDoor
open Go.RowKit

/-- Blocks of nodes, other than those of L, lie as they lay. -/
structure Fr (L : List Nat) (w w' : World) : Prop where
  size : w.heap.size ≤ w'.heap.size
  block : ∀ b cs fz, w.heap[b]? = some (.cells cs 27 fz) → b ∉ L → w'.heap[b]? = some (.cells cs 27 fz)
theorem heap_lt {w : World} {b : Nat} {o : Obj} (h : w.heap[b]? = some o) : b < w.heap.size := (Array.getElem?_eq_some_iff.1 h).1
theorem Fr.refl (L : List Nat) (w : World) : Fr L w w := ⟨Nat.le_refl _, fun _ _ _ h _ => h⟩
theorem Fr.trans {L L' : List Nat} {a b c : World} (h : Fr L a b) (k : Fr L' b c) (hL : ∀ x ∈ L', x ∈ L ∨ a.heap.size ≤ x) : Fr L a c :=
  ⟨Nat.le_trans h.size k.size, fun x cs fz hx hn => k.block x cs fz (h.block x cs fz hx hn) (fun hm => by
    rcases hL x hm with h1 | h1
    · exact hn h1
    · have := heap_lt hx; omega)⟩
theorem Fr.of_bl {w w' : World} (L : List Nat) (h : Bl w w') : Fr L w w' := ⟨h.size, fun b cs fz hb _ => by rw [h.block (heap_lt hb)]; exact hb⟩
theorem Fr.of_grown {w w' : World} {row : Option Nat} {L : List Nat} (h : w.grownBy w' row) (hr : ∀ k, row = some k → k ∈ L ∨ ∃ cs t fz, w.heap[k]? = some (.cells cs t fz) ∧ t ≠ 27) : Fr L w w' :=
  ⟨h.size, fun b cs fz hb hn => by
    rw [h.block b (heap_lt hb) (fun e => by
      rcases hr b e.symm with h1 | ⟨cs', t, fz', h1, h2⟩
      · exact hn h1
      · rw [hb] at h1; cases h1; exact h2 rfl)]
    exact hb⟩
theorem Fr.alloc (L : List Nat) (w : World) (o : Obj) : Fr L w (w.alloc o) := Fr.of_bl L ((Bl.refl w).alloc o)
theorem Fr.drew (L : List Nat) (w : World) : Fr L w w.drew := Fr.of_bl L (Bl.refl w).drew
theorem Fr.set (L : List Nat) (w : World) (p : Addr) (v : Value) (h : p.block ∈ L ∨ ∀ cs fz, w.heap[p.block]? ≠ some (.cells cs 27 fz)) : Fr L w (w.setCell p v) :=
  ⟨by simp, fun b cs fz hb hn => by
    rw [Below.heap_setCell w p v b (fun e => by
      subst e
      rcases h with h | h
      · exact hn h
      · exact h cs fz hb)]
    exact hb⟩

/-- The cells of a slice of nodes hold these nodes; nothing of them lies in L. -/
def NodeCells (w : World) (L : List Nat) : Fo → List Value → Prop
  | .nil, xs => xs = []
  | .cons k s t l r, xs => ∃ (v : Value) (ys zs : List Value), xs = .int .i64 (k : Int) :: .string (mkB s) :: .string (mkB t) :: .int .i64 0 :: .int .i64 0 :: .bool false :: v :: ys ∧ NodeCells w L r ys ∧ NodeCells w L l zs ∧
      ((v = .slice none 0 0 ∧ l = .nil) ∨ ∃ b o c cs fz, v = .slice (some ⟨b, o, none⟩) l.len c ∧ l.len ≤ c ∧ b ∉ L ∧ w.heap[b]? = some (.cells cs 27 fz) ∧ ∀ j u, zs[j]? = some u → cs[o + j]? = some u)
/-- A slice value that holds nodes. -/
structure Rep (w : World) (L : List Nat) (v : Value) (l : Fo) : Prop where
  mk :: (out : ∃ zs, NodeCells w L l zs ∧ ((v = .slice none 0 0 ∧ l = .nil) ∨ ∃ b o c cs fz, v = .slice (some ⟨b, o, none⟩) l.len c ∧ l.len ≤ c ∧ b ∉ L ∧ w.heap[b]? = some (.cells cs 27 fz) ∧ ∀ j u, zs[j]? = some u → cs[o + j]? = some u))
/-- A node's seven cells. -/
def nodeV (k : Nat) (s t : List UInt8) (v : Value) : List Value := [.int .i64 (k : Int), .string (mkB s), .string (mkB t), .int .i64 0, .int .i64 0, .bool false, v]
theorem NodeCells.cons_iff (w : World) (L : List Nat) (k : Nat) (s t : List UInt8) (l r : Fo) (xs : List Value) :
    NodeCells w L (.cons k s t l r) xs ↔ ∃ v ys, xs = nodeV k s t v ++ ys ∧ Rep w L v l ∧ NodeCells w L r ys := by
  constructor
  · rintro ⟨v, ys, zs, h1, h2, h3, h4⟩
    exact ⟨v, ys, h1, ⟨⟨zs, h3, h4⟩⟩, h2⟩
  · rintro ⟨v, ys, h1, ⟨zs, h3, h4⟩, h2⟩
    exact ⟨v, ys, zs, h1, h2, h3, h4⟩
theorem NodeCells.nil_iff (w : World) (L : List Nat) (xs : List Value) : NodeCells w L .nil xs ↔ xs = [] := Iff.rfl
theorem NodeCells.length {w : World} {L : List Nat} : ∀ {f : Fo} {xs : List Value}, NodeCells w L f xs → xs.length = 7 * f.len
  | .nil, xs, h => by rw [NodeCells.nil_iff] at h; subst h; rfl
  | .cons k s t l r, xs, h => by
    obtain ⟨v, ys, rfl, _, h2⟩ := (NodeCells.cons_iff _ _ _ _ _ _ _ _).1 h
    have := NodeCells.length h2
    simp [nodeV, Fo.len, this]; omega
theorem NodeCells.more {w w' : World} {L L' : List Nat} (k : Fr L w w') (hL : ∀ x ∈ L', x ∈ L ∨ w.heap.size ≤ x) : ∀ {f : Fo} {xs : List Value}, NodeCells w L f xs → NodeCells w' L' f xs
  | .nil, xs, h => h
  | .cons n s t l r, xs, ⟨v, ys, zs, h1, h2, h3, h4⟩ => ⟨v, ys, zs, h1, NodeCells.more k hL h2, NodeCells.more k hL h3, by
      rcases h4 with h4 | ⟨b, o, c, cs, fz, e1, e2, e3, e4, e5⟩
      · exact .inl h4
      · exact .inr ⟨b, o, c, cs, fz, e1, e2, fun hm => by
          rcases hL b hm with h | h
          · exact e3 h
          · have := heap_lt e4; omega, k.block b cs fz e4 e3, e5⟩⟩
theorem Rep.more {w w' : World} {L L' : List Nat} (k : Fr L w w') (hL : ∀ x ∈ L', x ∈ L ∨ w.heap.size ≤ x) {v : Value} {f : Fo} (h : Rep w L v f) : Rep w' L' v f := by
  obtain ⟨zs, h3, h4⟩ := h
  refine ⟨⟨zs, NodeCells.more k hL h3, ?_⟩⟩
  rcases h4 with h4 | ⟨b, o, c, cs, fz, e1, e2, e3, e4, e5⟩
  · exact .inl h4
  · exact .inr ⟨b, o, c, cs, fz, e1, e2, fun hm => by
      rcases hL b hm with h | h
      · exact e3 h
      · have := heap_lt e4; omega, k.block b cs fz e4 e3, e5⟩
theorem Rep.bl {w w' : World} {v : Value} {f : Fo} (h : Rep w [] v f) (k : Bl w w') : Rep w' [] v f := h.more (Fr.of_bl [] k) (fun x hx => by cases hx)
theorem Rep.nil (w : World) (L : List Nat) : Rep w L (.slice none 0 0) .nil := ⟨⟨[], rfl, .inl ⟨rfl, rfl⟩⟩⟩
theorem Rep.slice {w : World} {L : List Nat} {v : Value} {f : Fo} (h : Rep w L v f) : ∃ ao c, v = .slice ao f.len c := by
  obtain ⟨zs, _, ⟨h1, rfl⟩ | ⟨b, o, c, cs, fz, h1, _⟩⟩ := h.out
  · exact ⟨none, 0, h1⟩
  · exact ⟨_, _, h1⟩
theorem NodeCells.app {w : World} {L : List Nat} : ∀ {f g : Fo} {xs ys : List Value}, NodeCells w L f xs → NodeCells w L g ys → NodeCells w L (f.app g) (xs ++ ys)
  | .nil, g, xs, ys, h, k => by rw [NodeCells.nil_iff] at h; subst h; exact k
  | .cons n s t l r, g, xs, ys, h, k => by
    obtain ⟨v, zs, rfl, h1, h2⟩ := (NodeCells.cons_iff _ _ _ _ _ _ _ _).1 h
    exact (NodeCells.cons_iff _ _ _ _ _ _ _ _).2 ⟨v, zs ++ ys, by simp, h1, h2.app k⟩
theorem NodeCells.one {w : World} {L : List Nat} {k : Nat} {s t : List UInt8} {v : Value} {l : Fo} (h : Rep w L v l) : NodeCells w L (.one k s t l) (nodeV k s t v) :=
  (NodeCells.cons_iff _ _ _ _ _ _ _ _).2 ⟨v, [], by simp, h, rfl⟩
theorem Fo.len_app : ∀ f g : Fo, (f.app g).len = f.len + g.len
  | .nil, g => by simp [Fo.app, Fo.len]
  | .cons _ _ _ _ r, g => by simp [Fo.app, Fo.len, Fo.len_app r g]; omega
theorem Fo.len_snoc (f : Fo) (k : Nat) (s t : List UInt8) (l : Fo) : (f.snoc k s t l).len = f.len + 1 := by simp [Fo.snoc, Fo.len_app, Fo.one, Fo.len]
/-- A row of the call's own that holds nodes is a slice that holds them. -/
theorem Rep.of_row {w : World} {L : List Nat} {base : Nat} {v : Value} {f : Fo} {xs : List Value} (h : w.ownsRow base 27 7 v f.len xs) (k : NodeCells w L f xs) (hn : ∀ b, v.ownBlock = some b → b ∉ L) : Rep w L v f := by
  refine ⟨⟨xs, k, ?_⟩⟩
  rcases h.2 with ⟨h1, h2⟩ | ⟨g, cap, cur, h1, _, h3, h4, _, _, h5⟩
  · refine .inl ⟨h1, ?_⟩
    cases f with
    | nil => rfl
    | cons => simp [Fo.len] at h2
  · refine .inr ⟨g, 0, cap, cur, (0, 0), h1, h4, hn g (by rw [h1]; rfl), h3, fun j u hj => ?_⟩
    rw [Nat.zero_add]
    rw [← h5, List.getElem?_take] at hj
    split at hj
    · simpa using hj
    · cases hj

end Go.Proofs.YtjocbifjmchbcaaGreatDoor
/- Plain facts on the matcher of runs: its pairs lie in order and use no more signs than there are. -/
namespace Go.Proofs.YtjocbifjmchbcaaGreatDoor

/-- How many signs of a run pairs use. -/
def usedR (i : Nat) : List (Nat × Nat × Nat) → Nat
  | [] => 0
  | x :: t => (if x.1 == i then x.2.2 else 0) + (if x.2.1 == i then x.2.2 else 0) + usedR i t
theorem usedR_snoc (i : Nat) (x : Nat × Nat × Nat) : ∀ l, usedR i (l ++ [x]) = usedR i l + ((if x.1 == i then x.2.2 else 0) + (if x.2.1 == i then x.2.2 else 0))
  | [] => by simp [usedR]
  | a :: t => by rw [List.cons_append, usedR, usedR, usedR_snoc i x t]; omega
structure MInv (l : List Rn) (m : Ms) : Prop where
  k : m.k ≤ l.length
  len : m.left.length = l.length
  desc : m.stk.Pairwise (· > ·)
  lt : ∀ x ∈ m.stk, x < m.k
  out : ∀ x ∈ m.out, x.1 < x.2.1 ∧ x.2.1 < l.length ∧ 1 ≤ x.2.2
  used : ∀ i, i < l.length → usedR i m.out + m.left.getD i 0 ≤ (l.getD i default).n
theorem getD_set (l : List Nat) (i j v : Nat) : (l.set i v).getD j 0 = if i = j ∧ i < l.length then v else l.getD j 0 := by
  simp only [List.getD_eq_getElem?_getD, List.getElem?_set]
  by_cases h : i = j
  · subst h
    by_cases h2 : i < l.length
    · simp [h2]
    · simp [h2]
  · simp [h]
theorem clear_len : ∀ (g : List Nat) (e : List Nat), (g.foldl (fun e x => e.set x 0) e).length = e.length
  | [], e => rfl
  | a :: g, e => by rw [List.foldl_cons, clear_len g]; simp
theorem clear_getD : ∀ (g : List Nat) (e : List Nat) (i : Nat), (g.foldl (fun e x => e.set x 0) e).getD i 0 = if i ∈ g then 0 else e.getD i 0
  | [], e, i => by simp
  | a :: g, e, i => by
    rw [List.foldl_cons, clear_getD g, getD_set]
    by_cases h : i ∈ g
    · simp [h]
    · by_cases h2 : a = i
      · subst h2
        by_cases h3 : a < e.length
        · simp [h, h3]
        · simp [h, h3, List.getD_eq_getElem?_getD]
      · have : ¬ i = a := fun e => h2 e.symm
        simp [h, h2, this]
theorem clear_le (g e : List Nat) (i : Nat) : (g.foldl (fun e x => e.set x 0) e).getD i 0 ≤ e.getD i 0 := by
  rw [clear_getD]; split <;> omega
theorem seekR_suffix (l : List Rn) (m : Ms) : ∀ s, seekR l m s <:+ s
  | [] => List.suffix_refl _
  | j :: t => by
    unfold seekR
    split
    · exact List.nil_suffix
    · split
      · exact List.suffix_refl _
      · exact (seekR_suffix l m t).trans (List.suffix_cons _ _)
theorem seekR_opens (l : List Rn) (m : Ms) : ∀ s j t, seekR l m s = j :: t → opensR l m j = true
  | [], j, t, h => by simp [seekR] at h
  | a :: s, j, t, h => by
    unfold seekR at h
    split at h
    · cases h
    · split at h
      · rename_i h1; cases h; exact h1
      · exact seekR_opens l m s j t h
theorem MInv.first (l : List Rn) : MInv l (firstR l) := by
  refine ⟨Nat.zero_le _, by simp [firstR], List.Pairwise.nil, by simp [firstR], by simp [firstR], fun i hi => ?_⟩
  simp only [firstR, usedR, List.getD_eq_getElem?_getD, List.getElem?_map, List.getElem?_eq_getElem hi]
  simp
  split <;> omega
theorem MInv.next {l : List Rn} {m m' : Ms} (h : MInv l m) (e : roundR l m = some m') : MInv l m' := by
  unfold roundR at e
  split at e
  · rename_i hk
    dsimp only at e
    split at e
    · cases e
      exact ⟨hk, h.len, List.pairwise_cons.2 ⟨fun x hx => h.lt x hx, h.desc⟩, fun x hx => by
        rcases List.mem_cons.1 hx with rfl | hx
        · exact Nat.lt_succ_self _
        · have := h.lt x hx; dsimp only; omega, h.out, h.used⟩
    · rename_i h0
      split at e
      · rename_i j t hs
        cases e
        have hsuf := seekR_suffix l m m.stk
        rw [hs] at hsuf
        have hj := seekR_opens l m _ _ _ hs
        have hjm : j ∈ m.stk := hsuf.mem List.mem_cons_self
        have hjk : j < m.k := h.lt j hjm
        have hjl : 1 ≤ m.left.getD j 0 := by
          unfold opensR at hj
          simp at hj
          have := hj.1.2
          simpa using this
        have hkl : 1 ≤ m.left.getD m.k 0 := by
          simp at h0
          have := h0.2
          simp; omega
        have hn : 1 ≤ sizeR l m j ∧ sizeR l m j ≤ m.left.getD m.k 0 ∧ sizeR l m j ≤ m.left.getD j 0 := by
          unfold sizeR
          split
          · rename_i hc
            unfold opensR at hj
            dsimp only at hj
            rw [if_pos hc] at hj
            simp at hj
            have h2 := hj.2
            simp; simp at hkl hjl; omega
          · simp; simp at hkl hjl; omega
        obtain ⟨n, hn'⟩ : ∃ n, sizeR l m j = n := ⟨_, rfl⟩
        rw [hn'] at hn
        have hd := h.desc.sublist hsuf.sublist
        refine ⟨h.k, by simp [clear_len, h.len], ?_, ?_, ?_, ?_⟩
        · dsimp only
          split
          · exact (List.pairwise_cons.1 hd).2
          · exact hd
        · dsimp only
          intro x hx
          apply h.lt
          apply hsuf.mem
          split at hx
          · exact List.mem_cons_of_mem _ hx
          · exact hx
        · dsimp only
          intro x hx
          rcases List.mem_append.1 hx with hx | hx
          · exact h.out x hx
          · simp at hx; subst hx; exact ⟨hjk, hk, by dsimp only; omega⟩
        · intro i hi
          dsimp only
          rw [hn', usedR_snoc, getD_set, getD_set]
          have hu := h.used i hi
          have hc := clear_le (m.stk.takeWhile (· != j)) m.left i
          have hlen : ∀ v, ((m.stk.takeWhile (· != j)).foldl (fun e x => e.set x 0) m.left).length = l.length ∧ (((m.stk.takeWhile (· != j)).foldl (fun e x => e.set x 0) m.left).set j v).length = l.length := fun v => by simp [clear_len, h.len]
          rw [(hlen _).2, (hlen 0).1]
          have hcj := clear_le (m.stk.takeWhile (· != j)) m.left j
          by_cases e1 : m.k = i
          · subst e1
            have e2 : ¬ j = m.k := by omega
            have e3 : (j == m.k) = false := by simpa using e2
            dsimp only
            rw [e3]
            simp only [beq_self_eq_true, if_true, Bool.false_eq_true, if_false]
            rw [if_pos ⟨trivial, hi⟩]
            simp at hu hn ⊢; omega
          · have e4 : (m.k == i) = false := by simpa using e1
            dsimp only
            by_cases e2 : j = i
            · subst e2
              rw [e4]
              simp only [beq_self_eq_true, if_true, Bool.false_eq_true, if_false]
              rw [if_neg (show ¬ (m.k = j ∧ m.k < l.length) from fun h => e1 h.1), if_pos ⟨trivial, hi⟩]
              simp at hu hn hcj ⊢; omega
            · have e3 : (j == i) = false := by simpa using e2
              rw [e3, e4]
              simp only [Bool.false_eq_true, if_false]
              rw [if_neg (show ¬ (m.k = i ∧ m.k < l.length) from fun h => e1 h.1), if_neg (show ¬ (j = i ∧ j < l.length) from fun h => e2 h.1)]
              simp at hu hc ⊢; omega
      · split at e
        · cases e
          exact ⟨hk, h.len, List.pairwise_cons.2 ⟨fun x hx => h.lt x hx, h.desc⟩, fun x hx => by
            rcases List.mem_cons.1 hx with rfl | hx
            · exact Nat.lt_succ_self _
            · have := h.lt x hx; dsimp only; omega, h.out, h.used⟩
        · cases e
          refine ⟨hk, by simp [h.len], h.desc, fun x hx => by have := h.lt x hx; dsimp only; omega, h.out, fun i hi => ?_⟩
          dsimp only
          rw [getD_set]
          have := h.used i hi
          split <;> omega
  · cases e
theorem MInv.rounds {l : List Rn} : ∀ (f : Nat) (m : Ms), MInv l m → MInv l (roundsR l f m)
  | 0, m, h => h
  | f + 1, m, h => by
    unfold roundsR
    split
    · exact h
    · rename_i m' e; exact MInv.rounds f m' (h.next e)
theorem matchL_inv (l : List Rn) : MInv l (roundsR l (l.length + (l.map (·.n)).sum + 1) (firstR l)) := MInv.rounds _ _ (MInv.first l)
theorem matchL_out (l : List Rn) : ∀ x ∈ matchL l, x.1 < x.2.1 ∧ x.2.1 < l.length ∧ 1 ≤ x.2.2 := (matchL_inv l).out
theorem matchL_used (l : List Rn) (i : Nat) (hi : i < l.length) : usedR i (matchL l) ≤ (l.getD i default).n := by
  have := (matchL_inv l).used i hi
  unfold matchL; omega
end Go.Proofs.YtjocbifjmchbcaaGreatDoor
/- Each round of the matcher leaves less to do. -/
namespace Go.Proofs.YtjocbifjmchbcaaGreatDoor
theorem sum_set : ∀ (e : List Nat) (i v : Nat), i < e.length → (e.set i v).sum + e.getD i 0 = e.sum + v
  | [], i, v, h => by simp at h
  | a :: e, 0, v, _ => by simp; omega
  | a :: e, i + 1, v, h => by
    have := sum_set e i v (by simpa using h)
    simp at this ⊢; omega
theorem clear_sum : ∀ (g e : List Nat), (g.foldl (fun e x => e.set x 0) e).sum ≤ e.sum
  | [], e => Nat.le_refl _
  | a :: g, e => by
    rw [List.foldl_cons]
    refine Nat.le_trans (clear_sum g _) ?_
    by_cases h : a < e.length
    · have := sum_set e a 0 h; omega
    · rw [List.set_eq_of_length_le (by omega)]; exact Nat.le_refl _
def muR (l : List Rn) (m : Ms) : Nat := (l.length - m.k) + m.left.sum
theorem opensR_left {l : List Rn} {m : Ms} {j : Nat} (h : opensR l m j = true) : 1 ≤ m.left.getD j 0 := by
  unfold opensR at h
  simp at h
  have := h.1.2
  simpa using this
theorem sizeR_bounds {l : List Rn} {m : Ms} {j : Nat} (h : opensR l m j = true) (hk : 1 ≤ m.left.getD m.k 0) : 1 ≤ sizeR l m j ∧ sizeR l m j ≤ m.left.getD m.k 0 ∧ sizeR l m j ≤ m.left.getD j 0 := by
  have hj := opensR_left h
  unfold sizeR
  split
  · rename_i hc
    unfold opensR at h
    dsimp only at h
    rw [if_pos hc] at h
    simp at h
    have h2 := h.2
    simp; simp at hk hj; omega
  · simp; simp at hk hj; omega
theorem muR_next {l : List Rn} {m m' : Ms} (h : MInv l m) (e : roundR l m = some m') : muR l m' < muR l m := by
  have hlen := h.len
  unfold roundR at e
  split at e
  · rename_i hk
    dsimp only at e
    split at e
    · cases e; unfold muR; dsimp only; omega
    · rename_i h0
      split at e
      · rename_i j t hs
        cases e
        have hsuf := seekR_suffix l m m.stk
        rw [hs] at hsuf
        have hj := seekR_opens l m _ _ _ hs
        have hjk : j < m.k := h.lt j (hsuf.mem List.mem_cons_self)
        have hkl : 1 ≤ m.left.getD m.k 0 := by
          simp at h0
          have := h0.2
          simp; omega
        have hn := sizeR_bounds hj hkl
        unfold muR
        dsimp only
        obtain ⟨n, hn'⟩ : ∃ n, sizeR l m j = n := ⟨_, rfl⟩
        rw [hn'] at hn ⊢
        obtain ⟨e0, he0⟩ : ∃ e0, (m.stk.takeWhile (· != j)).foldl (fun e x => e.set x 0) m.left = e0 := ⟨_, rfl⟩
        have c1 := clear_len (m.stk.takeWhile (· != j)) m.left
        have c2 := clear_sum (m.stk.takeWhile (· != j)) m.left
        have c3 := clear_getD (m.stk.takeWhile (· != j)) m.left m.k
        rw [if_neg (fun hx => by have := h.lt _ ((List.takeWhile_sublist _).mem hx); omega)] at c3
        rw [he0] at c1 c2 c3 ⊢
        have s1 := sum_set e0 j (e0.getD j 0 - n) (by omega)
        have s2 := sum_set (e0.set j (e0.getD j 0 - n)) m.k (m.left.getD m.k 0 - n) (by rw [List.length_set]; omega)
        rw [getD_set, if_neg (fun hx => by omega), c3] at s2
        omega
      · split at e
        · cases e; unfold muR; dsimp only; omega
        · cases e
          unfold muR; dsimp only
          have := sum_set m.left m.k 0 (by omega)
          omega
  · cases e
theorem muR_first (l : List Rn) : muR l (firstR l) < l.length + (l.map (·.n)).sum + 1 := by
  have : (firstR l).left.sum ≤ (l.map (·.n)).sum := by
    unfold firstR; dsimp only
    induction l with
    | nil => simp
    | cons a l ih => simp only [List.map_cons, List.sum_cons]; split <;> omega
  unfold muR
  have hk : (firstR l).k = 0 := rfl
  omega
theorem roundR_none {l : List Rn} {m : Ms} (h : l.length ≤ m.k) : roundR l m = none := by
  unfold roundR; rw [if_neg (by omega)]
theorem roundsR_done {l : List Rn} {m : Ms} (f : Nat) (h : l.length ≤ m.k) : roundsR l f m = m := by
  cases f with
  | zero => rfl
  | succ f => unfold roundsR; rw [roundR_none h]
theorem roundsR_step {l : List Rn} {m m' : Ms} (f : Nat) (h : roundR l m = some m') : roundsR l (f + 1) m = roundsR l f m' := by
  rw [roundsR, h]
theorem roundR_out {l : List Rn} {m m' : Ms} (e : roundR l m = some m') : m'.out.length ≤ m.out.length + 1 := by
  unfold roundR at e
  split at e
  · dsimp only at e
    split at e
    · cases e; simp
    · split at e
      · cases e; simp
      · split at e
        · cases e; simp
        · cases e; simp
  · cases e
theorem roundsR_out {l : List Rn} : ∀ (f : Nat) (m : Ms), MInv l m → (roundsR l f m).out.length + muR l (roundsR l f m) ≤ m.out.length + muR l m
  | 0, m, _ => Nat.le_refl _
  | f + 1, m, h => by
    unfold roundsR
    split
    · exact Nat.le_refl _
    · rename_i m' e
      have h1 := roundsR_out f m' (h.next e)
      have h2 := roundR_out e
      have h3 := muR_next h e
      omega
theorem matchL_len (l : List Rn) : (matchL l).length ≤ muR l (firstR l) := by
  have h := roundsR_out (l.length + (l.map (·.n)).sum + 1) (firstR l) (MInv.first l)
  unfold matchL
  simp [firstR] at h ⊢
  omega
end Go.Proofs.YtjocbifjmchbcaaGreatDoor
/- A region that draws its order, whose loads are taken first although a later operation writes what they read: that operation waits for them. -/
namespace Go.Proofs.YtjocbifjmchbcaaGreatDoor

section
variable {P : Program} {ops : Array Oper} {Q : Exit → Act → World → Prop} {md : Region.Mode} {S : World → Prop} {N : List Nat}

/-- Does operation j wait for operation i, by itself or through others (so many)? -/
def waitsOn (md : Region.Mode) (ops : Array Oper) : Nat → Nat → Nat → Bool
  | 0, _, _ => false
  | f + 1, j, i => match ops[j]? with
    | some o => o.after.any fun e => Region.binds md e && (e.on == i || waitsOn md ops f e.on i)
    | none => false
/-- May operation j come ahead of one of N? -/
def early (md : Region.Mode) (ops : Array Oper) (N : List Nat) (j : Nat) : Bool := N.any fun i => i != j && !waitsOn md ops 6 j i
/-- What has come up is what it waits for, too. -/
def shutB (md : Region.Mode) (ops : Array Oper) (listed : Array Bool) : Bool :=
  (List.range ops.size).all fun j => !listed.getD j false || (match ops[j]? with | some o => o.after.all fun e => !Region.binds md e || listed.getD e.on false | none => true)
theorem shutB_spec {listed : Array Bool} (h : shutB md ops listed = true) {j : Nat} {o : Oper} (hj : listed.getD j false = true) (ho : ops[j]? = some o) : ∀ e ∈ o.after, Region.binds md e = true → listed.getD e.on false = true := by
  intro e he hb
  unfold shutB at h
  rw [List.all_eq_true] at h
  have := h j (List.mem_range.2 (Array.getElem?_eq_some_iff.1 ho).1)
  rw [hj, ho] at this
  simp only [Bool.not_true, Bool.false_or] at this
  have := Array.all_eq_true_iff_forall_mem.1 this e he
  rw [hb] at this
  simpa using this
theorem shutB_set {listed : Array Bool} (h : shutB md ops listed = true) {j : Nat} (hj : j ∈ Region.ready md ops listed) : shutB md ops (listed.setIfInBounds j true) = true := by
  obtain ⟨_, oj, hoj, hall⟩ := mem_ready.1 hj
  unfold shutB
  rw [List.all_eq_true]
  intro k hk
  rw [List.mem_range] at hk
  have hok : ops[k]? = some ops[k] := Array.getElem?_eq_getElem hk
  rw [hok]
  cases hl : (listed.setIfInBounds j true).getD k false with
  | false => rfl
  | true =>
    simp only [Bool.not_true, Bool.false_or]
    rw [Array.all_eq_true_iff_forall_mem]
    intro e he
    cases hb : Region.binds md e with
    | false => rfl
    | true =>
      simp only [Bool.not_true, Bool.false_or]
      refine getD_set_true ?_
      by_cases e1 : j = k
      · subst e1
        rw [hok] at hoj
        cases hoj
        exact hall e he hb
      · rw [getD_set_ne false e1] at hl
        exact shutB_spec h hl hok e he hb
theorem waitsOn_listed {listed : Array Bool} (h : shutB md ops listed = true) : ∀ (f j i : Nat) (o : Oper), ops[j]? = some o → (∀ e ∈ o.after, Region.binds md e = true → listed.getD e.on false = true) → waitsOn md ops f j i = true → listed.getD i false = true
  | 0, _, _, _, _, _, hw => by cases hw
  | f + 1, j, i, o, ho, hd, hw => by
    unfold waitsOn at hw
    rw [ho] at hw
    obtain ⟨e, he, hb⟩ := Array.any_eq_true'.1 hw
    simp only [Bool.and_eq_true, Bool.or_eq_true, beq_iff_eq] at hb
    have hl := hd e he hb.1
    rcases hb.2 with h1 | h1
    · rw [← h1]; exact hl
    · cases hoe : ops[e.on]? with
      | none =>
        cases f with
        | zero => cases h1
        | succ f => unfold waitsOn at h1; rw [hoe] at h1; cases h1
      | some oe => exact waitsOn_listed h f e.on i oe hoe (shutB_spec h hl hoe) h1
/-- Whatever order is picked from here on; and behind each operation that may come ahead of one of N, S holds. -/
def wpAnyN (P : Program) (md : Region.Mode) (ops : Array Oper) (Q : Exit → Act → World → Prop) (S : World → Prop) (N : List Nat) : Nat → Array Bool → Act → World → Prop
  | 0, listed, a, w => Region.ready md ops listed = [] ∧ Q .normal a w
  | f + 1, listed, a, w =>
    (Region.ready md ops listed = [] → Q .normal a w) ∧
    ∀ i ∈ Region.ready md ops listed, wpOp P ops Q i (fun a' w' => (early md ops N i = true → S w') ∧ wpAnyN P md ops Q S N f (listed.setIfInBounds i true) a' w') a w
theorem wpAny_of_n : ∀ (f : Nat) (listed : Array Bool) (a : Act) (w : World), wpAnyN P md ops Q S N f listed a w → wpAny P md ops Q f listed a w
  | 0, _, _, _, h => h
  | f + 1, _, _, _, h => ⟨h.1, fun i hi => wpOp_mono (fun a' w' k => wpAny_of_n f _ a' w' k.2) (h.2 i hi)⟩
theorem early_of {listed : Array Bool} (hc : shutB md ops listed = true) {i j : Nat} (hN : i ∈ N) (hj : j ≠ i) (hjr : j ∈ Region.ready md ops listed) (hui : listed.getD i true = false) : early md ops N j = true := by
  obtain ⟨_, oj, hoj, hall⟩ := mem_ready.1 hjr
  unfold early
  rw [List.any_eq_true]
  refine ⟨i, hN, ?_⟩
  have h1 : (i != j) = true := by simpa using fun e => hj e.symm
  have h2 : waitsOn md ops 6 j i = false := by
    cases hx : waitsOn md ops 6 j i with
    | false => rfl
    | true =>
      have h3 := waitsOn_listed hc 6 j i oj hoj hall hx
      by_cases hlt : i < listed.size
      · simp [hlt] at hui h3; rw [hui] at h3; cases h3
      · simp [Array.getElem?_eq_none (Nat.le_of_not_lt hlt)] at h3
  rw [h1, h2]; rfl
/-- An operation of N that may come up, and that yields its value in every world that meets S, may be taken first. -/
theorem wpAnyN_first {i : Nat} {oi : Oper} {v : Value} (hi : ops[i]? = some oi) (hsel : ∀ (j : Nat) (o : Oper) cs b, ops[j]? = some o → o.op ≠ .select cs b)
    (hQ : ∀ c a w, Q (.panic c) (a.put oi.dst v) w → Q (.panic c) a w) (hN : i ∈ N) : ∀ (f : Nat) (listed : Array Bool) (a : Act) (w : World), shutB md ops listed = true →
      (∀ j oj, ops[j]? = some oj → j ≠ i → listed.getD j true = false → (∀ e ∈ oj.after, Region.binds md e = true → e.on ≠ i) → oi.apart ops oj = true) →
      i ∈ Region.ready md ops listed → YieldsIf P ops S oi v a → S w →
      wpAnyN P md ops Q S N f (listed.setIfInBounds i true) (a.put oi.dst v) w → wpAnyN P md ops Q S N (f + 1) listed a w := by
  intro f
  induction f with
  | zero =>
    intro listed a w _ _ hr hy hS H
    refine ⟨fun h => (by rw [h] at hr; cases hr), fun j hj => ?_⟩
    by_cases e : j = i
    · subst e
      exact hy.wpOp hi hS ⟨fun _ => hS, H⟩
    · have := ready_mono hj e
      rw [H.1] at this
      cases this
  | succ f ih =>
    intro listed a w hc hfree hr hy hS H
    refine ⟨fun h => (by rw [h] at hr; cases hr), fun j hj => ?_⟩
    by_cases e : j = i
    · subst e
      exact hy.wpOp hi hS ⟨fun _ => hS, H⟩
    · obtain ⟨hun, oj, hoj, hall⟩ := mem_ready.1 hj
      have hui := (mem_ready.1 hr).1
      have hno : ∀ x ∈ oj.after, Region.binds md x = true → x.on ≠ i := fun x hx hb he => by
        have h1 := hall x hx hb
        rw [he] at h1
        by_cases hlt : i < listed.size
        · simp [hlt] at hui h1; rw [hui] at h1; cases h1
        · simp [Array.getElem?_eq_none (Nat.le_of_not_lt hlt)] at h1
      have step := wpOp_putIf hoj (hfree j oj hoj e hun hno) (fun cs b => hsel i oi cs b hi) (fun cs b => hsel j oj cs b hoj) hQ hy (H.2 j (ready_mono hj e))
      refine wpOp_mono (fun a' w' k => ⟨fun _ => k.2.1 (early_of hc hN e hj hui), ih (listed.setIfInBounds j true) a' w' (shutB_set hc hj) ?_ (ready_mono hr (Ne.symm e)) k.1 (k.2.1 (early_of hc hN e hj hui)) ?_⟩) step
      · intro m om hm hmi hmu hmn
        refine hfree m om hm hmi ?_ hmn
        by_cases hjm : j = m
        · subst hjm; exact hun
        · rw [getD_set_ne true hjm] at hmu; exact hmu
      · rw [Array.setIfInBounds_comm _ _ e]; exact k.2.2
theorem wpAnyN_take {i : Nat} {oi : Oper} {v : Value} {f : Nat} {listed : Array Bool} {a : Act} {w : World} (hi : ops[i]? = some oi) (hs : Region.noSelect ops = true) (hf : Region.free md ops listed i = true)
    (hr : (Region.ready md ops listed).contains i = true) (hN : N.contains i = true) (hc : shutB md ops listed = true) (hQ : ∀ c a w, Q (.panic c) (a.put oi.dst v) w → Q (.panic c) a w) (hy : YieldsIf P ops S oi v a) (hS : S w)
    (h : wpAnyN P md ops Q S N f (listed.setIfInBounds i true) (a.put oi.dst v) w) : wpAnyN P md ops Q S N (f + 1) listed a w :=
  wpAnyN_first hi (Region.noSelect_spec hs) hQ (by simpa using hN) f listed a w hc (Region.free_spec hi hf) (by simpa using hr) hy hS h
/-- An operation that comes behind all of N and yields its value in whatever world may be taken first too. -/
theorem wpAnyN_second {i : Nat} {oi : Oper} {v : Value} (hi : ops[i]? = some oi) (hsel : ∀ (j : Nat) (o : Oper) cs b, ops[j]? = some o → o.op ≠ .select cs b)
    (hQ : ∀ c a w, Q (.panic c) (a.put oi.dst v) w → Q (.panic c) a w) (hE : early md ops N i = false) : ∀ (f : Nat) (listed : Array Bool) (a : Act) (w : World),
      (∀ j oj, ops[j]? = some oj → j ≠ i → listed.getD j true = false → (∀ e ∈ oj.after, Region.binds md e = true → e.on ≠ i) → oi.apart ops oj = true) →
      i ∈ Region.ready md ops listed → Yields P ops oi v a →
      wpAnyN P md ops Q S N f (listed.setIfInBounds i true) (a.put oi.dst v) w → wpAnyN P md ops Q S N (f + 1) listed a w := by
  intro f
  induction f with
  | zero =>
    intro listed a w _ hr hy H
    refine ⟨fun h => (by rw [h] at hr; cases hr), fun j hj => ?_⟩
    by_cases e : j = i
    · subst e
      exact hy.wpOp hi ⟨fun h => (by rw [hE] at h; cases h), H⟩
    · have := ready_mono hj e
      rw [H.1] at this
      cases this
  | succ f ih =>
    intro listed a w hfree hr hy H
    refine ⟨fun h => (by rw [h] at hr; cases hr), fun j hj => ?_⟩
    by_cases e : j = i
    · subst e
      exact hy.wpOp hi ⟨fun h => (by rw [hE] at h; cases h), H⟩
    · obtain ⟨hun, oj, hoj, hall⟩ := mem_ready.1 hj
      have hui := (mem_ready.1 hr).1
      have hno : ∀ x ∈ oj.after, Region.binds md x = true → x.on ≠ i := fun x hx hb he => by
        have h1 := hall x hx hb
        rw [he] at h1
        by_cases hlt : i < listed.size
        · simp [hlt] at hui h1; rw [hui] at h1; cases h1
        · simp [Array.getElem?_eq_none (Nat.le_of_not_lt hlt)] at h1
      have step := wpOp_put hoj (hfree j oj hoj e hun hno) (fun cs b => hsel i oi cs b hi) (fun cs b => hsel j oj cs b hoj) hQ hy (H.2 j (ready_mono hj e))
      refine wpOp_mono (fun a' w' k => ⟨k.2.1, ih (listed.setIfInBounds j true) a' w' ?_ (ready_mono hr (Ne.symm e)) k.1 ?_⟩) step
      · intro m om hm hmi hmu hmn
        refine hfree m om hm hmi ?_ hmn
        by_cases hjm : j = m
        · subst hjm; exact hun
        · rw [getD_set_ne true hjm] at hmu; exact hmu
      · rw [Array.setIfInBounds_comm _ _ e]; exact k.2.2
theorem wpAnyN_pass {i : Nat} {oi : Oper} {v : Value} {f : Nat} {listed : Array Bool} {a : Act} {w : World} (hi : ops[i]? = some oi) (hs : Region.noSelect ops = true) (hf : Region.free md ops listed i = true)
    (hr : (Region.ready md ops listed).contains i = true) (hE : early md ops N i = false) (hQ : ∀ c a w, Q (.panic c) (a.put oi.dst v) w → Q (.panic c) a w) (hy : Yields P ops oi v a)
    (h : wpAnyN P md ops Q S N f (listed.setIfInBounds i true) (a.put oi.dst v) w) : wpAnyN P md ops Q S N (f + 1) listed a w :=
  wpAnyN_second hi (Region.noSelect_spec hs) hQ hE f listed a w (Region.free_spec hi hf) (by simpa using hr) hy h
/-- Each of the operations rs comes up next. -/
def AllN (P : Program) (md : Region.Mode) (ops : Array Oper) (Q : Exit → Act → World → Prop) (S : World → Prop) (N : List Nat) (f : Nat) (listed : Array Bool) (a : Act) (w : World) (rs : List Nat) : Prop :=
  ∀ i ∈ rs, wpOp P ops Q i (fun a' w' => (early md ops N i = true → S w') ∧ wpAnyN P md ops Q S N f (listed.setIfInBounds i true) a' w') a w
theorem AllN.nil {f : Nat} {listed : Array Bool} {a : Act} {w : World} : AllN P md ops Q S N f listed a w [] := fun _ h => by cases h
/-- What is to be shown behind an operation. -/
structure Next (p : Prop) : Prop where mk :: (out : p)
theorem Next.go {E : Prop} {X K : Act → World → Prop} (h : Next (∀ a w, (E → S w) → X a w → K a w)) (a : Act) (w : World) (hS : S w) (hx : S w → X a w) : K a w := h.out a w (fun _ => hS) (hx hS)
theorem AllN.cons {f : Nat} {listed : Array Bool} {a : Act} {w : World} {i : Nat} {o : Oper} {rs : List Nat} (ho : ops[i]? = some o)
    (h : ∀ K : Act → World → Prop, Next (∀ a w, (early md ops N i = true → S w) → wpAnyN P md ops Q S N f (listed.setIfInBounds i true) a w → K a w) → if Region.wanted o (yielded ops a.tmps) = true then Oper.wp P o a w K Q else K (a.put o.dst undef) w)
    (hs : AllN P md ops Q S N f listed a w rs) : AllN P md ops Q S N f listed a w (i :: rs) := fun j hj => by
  rcases List.mem_cons.1 hj with rfl | hj
  · exact wpOp_step ho (fun K hK => h K ⟨fun a w h1 h2 => hK a w ⟨h1, h2⟩⟩)
  · exact hs j hj
theorem not_early {md : Region.Mode} {ops : Array Oper} {N : List Nat} {i : Nat} {p : Prop} (h : early md ops N i = false) : early md ops N i = true → p := fun k => by rw [h] at k; cases k
theorem wpAnyN_ready {rs : List Nat} {f : Nat} {listed : Array Bool} {a : Act} {w : World} (hr : Region.ready md ops listed = rs) (hne : rs ≠ []) (h : AllN P md ops Q S N f listed a w rs) :
    wpAnyN P md ops Q S N (f + 1) listed a w := ⟨fun h0 => absurd (hr ▸ h0) hne, hr ▸ h⟩
theorem wpAnyN_done {listed : Array Bool} {a : Act} {w : World} (hr : Region.ready md ops listed = []) (h : Q .normal a w) : ∀ f, wpAnyN P md ops Q S N f listed a w
  | 0 => ⟨hr, h⟩
  | _ + 1 => ⟨fun _ => h, by rw [hr]; simp⟩
theorem wp_region_n {id : Nat} {a : Act} {w : World} (S : World → Prop) (N : List Nat) (hm : P.follows .mixedOrders = true)
    (h : wpAnyN P .any ops Q S N ops.size (Array.replicate ops.size false) a w.drew) : (Code.region id ops true).wp P Q a w :=
  wp_region_any hm (wpAny_of_n _ _ _ _ h)
/-- An operation that goes by what it runs to, at a step of a region. -/
theorem step_runs {o : Oper} {a : Act} {w w' : World} {K : Act → World → Prop} {E : Prop} {v : Value} (hg : o.guard = none) (hrun : (execOp a.eval o).run P w = .ok (.value v) w') (hK : K (a.put o.dst v) w') :
    if Region.wanted o (yielded ops a.tmps) = true then Oper.wp P o a w K Q else E := by
  have hw : Region.wanted o (yielded ops a.tmps) = true := by simp [Region.wanted, hg]
  rw [if_pos hw]
  unfold Oper.wp
  rw [hrun]
  exact hK
theorem step_skips {o : Oper} {a : Act} {w w' : World} {K : Act → World → Prop} {E : Prop} (hg : o.guard = none) (hrun : (execOp a.eval o).run P w = .ok .skip w') (hK : K (a.put o.dst undef) w') :
    if Region.wanted o (yielded ops a.tmps) = true then Oper.wp P o a w K Q else E := by
  have hw : Region.wanted o (yielded ops a.tmps) = true := by simp [Region.wanted, hg]
  rw [if_pos hw]
  unfold Oper.wp
  rw [hrun]
  exact hK
end
end Go.Proofs.YtjocbifjmchbcaaGreatDoor
/- delim.fits; the matcher in memory. -/
namespace Go.Proofs.YtjocbifjmchbcaaGreatDoor
open Go.RowKit

def rnV (r : Rn) : Array Value := #[.int .u8 (r.c.toNat : Int), .int .i64 (r.n : Int), .bool r.o, .bool r.cl]
theorem fitsR_eq (a b : Rn) : fitsR a b = if !(a.o && a.cl || b.o && b.cl) || (((a.n : Int) + b.n) % 3 != 0) then true else (((a.n : Int) % 3 == 0) && ((b.n : Int) % 3 == 0)) := by
  unfold fitsR
  have e1 : ((a.n + b.n) % 3 != 0) = (((a.n : Int) + b.n) % 3 != 0) := by rw [Bool.eq_iff_iff]; simp; omega
  have e2 : (a.n % 3 == 0) = ((a.n : Int) % 3 == 0) := by rw [Bool.eq_iff_iff]; simp; omega
  have e3 : (b.n % 3 == 0) = ((b.n : Int) % 3 == 0) := by rw [Bool.eq_iff_iff]; simp; omega
  rw [e1, e2, e3]
set_option maxRecDepth 100000 in
set_option maxHeartbeats 4000000 in
theorem fits_any (a b : Rn) (w : World) (ha : a.n ≤ 1000000) (hb : b.n ≤ 1000000) :
    Calls Tryz.prog 200 #[.agg (rnV a), .agg (rnV b)] w fun e w' => e = .returned (.bool (fitsR a b)) ∧ Bl w w' := by
  rw [fitsR_eq]
  obtain ⟨ac, an, ao, acl⟩ := a
  obtain ⟨bc, bn, bo, bcl⟩ := b
  dsimp only at ha hb ⊢
  unfold rnV
  dsimp only
  have h1 : (0 : Int) ≤ (an : Int) := Int.natCast_nonneg _
  have h2 : (0 : Int) ≤ (bn : Int) := Int.natCast_nonneg _
  have h3 : (an : Int) ≤ 1000000 := by omega
  have h4 : (bn : Int) ≤ 1000000 := by omega
  cases ao <;> cases acl <;> cases bo <;> cases bcl
  all_goals
    cases hs : (((an : Int) + bn) % 3 != 0) <;> cases hx : ((an : Int) % 3 == 0)
  all_goals
    have h5 := hs
    go_enter Tryz.func200, Tryz.ntmps200
    go_wp2
    go_ret
    exact ⟨by simp, ((Bl.refl w).alloc _).alloc _⟩
end Go.Proofs.YtjocbifjmchbcaaGreatDoor
/- The matcher in memory; its drop. -/
namespace Go.Proofs.YtjocbifjmchbcaaGreatDoor
open Go.RowKit

/-- A run's place among those that are not done: its signs left, the one ahead, the one behind. -/
structure Ee where
  l : Int
  p : Int
  n : Int
  deriving Inhabited
/-- The entries lie at the head of block eb. -/
structure Ent (w : World) (eb : Nat) (E : List Ee) : Prop where
  mk :: (ex : ∃ cur, w.heap[eb]? = some (.cells cur 179 (0, 0)) ∧ ∀ (i : Nat) (e : Ee), E[i]? = some e → cur[i * 3]? = some (.int .i64 e.l) ∧ cur[i * 3 + 1]? = some (.int .i64 e.p) ∧ cur[i * 3 + 2]? = some (.int .i64 e.n))
theorem Ent.lt {w : World} {eb : Nat} {E : List Ee} (h : Ent w eb E) : eb < w.heap.size := by obtain ⟨cur, h1, _⟩ := h.ex; exact heap_lt h1
theorem Ent.cells {w : World} {eb : Nat} {E : List Ee} (h : Ent w eb E) {i : Nat} {e : Ee} (hi : E[i]? = some e) :
    w.cell? ⟨eb, i * 3, none⟩ = some (.int .i64 e.l) ∧ w.cell? ⟨eb, i * 3 + 1, none⟩ = some (.int .i64 e.p) ∧ w.cell? ⟨eb, i * 3 + 2, none⟩ = some (.int .i64 e.n) := by
  obtain ⟨cur, h1, h2⟩ := h.ex
  have := h2 i e hi
  rw [Lib.cell_of_heap h1, Lib.cell_of_heap h1, Lib.cell_of_heap h1]
  exact this
theorem Ent.free {w : World} {eb : Nat} {E : List Ee} (h : Ent w eb E) (o : Nat) : w.frozen? ⟨eb, o, none⟩ = false := by obtain ⟨cur, h1, _⟩ := h.ex; exact Lib.frozen_of_heap h1 o
theorem Ent.same {w w' : World} {eb : Nat} {E : List Ee} (h : Ent w eb E) (k : w'.heap[eb]? = w.heap[eb]?) : Ent w' eb E := by obtain ⟨cur, h1, h2⟩ := h.ex; exact ⟨⟨cur, k.trans h1, h2⟩⟩
theorem Ent.set {w : World} {eb : Nat} {E : List Ee} (h : Ent w eb E) {i c : Nat} {e e' : Ee} (hi : E[i]? = some e) (x : Int)
    (hc : (c = 0 ∧ e' = { e with l := x }) ∨ (c = 1 ∧ e' = { e with p := x }) ∨ (c = 2 ∧ e' = { e with n := x })) : Ent (w.setCell ⟨eb, i * 3 + c, none⟩ (.int .i64 x)) eb (E.set i e') := by
  obtain ⟨cur, h1, h2⟩ := h.ex
  refine ⟨⟨cur.setIfInBounds (i * 3 + c) (.int .i64 x), by simp [World.setCell, Array.getElem?_modify, h1], fun j y hj => ?_⟩⟩
  rw [List.getElem?_set] at hj
  have hl := (h2 i e hi)
  have lt0 : i * 3 + 2 < cur.size := (Array.getElem?_eq_some_iff.1 hl.2.2).1
  simp only [Array.getElem?_setIfInBounds]
  by_cases e1 : i = j
  · subst e1
    have hlt : i < E.length := (List.getElem?_eq_some_iff.1 hi).1
    rw [if_pos rfl, if_pos hlt] at hj
    cases hj
    rcases hc with ⟨rfl, rfl⟩ | ⟨rfl, rfl⟩ | ⟨rfl, rfl⟩
    · refine ⟨?_, ?_, ?_⟩
      · rw [if_pos (by omega), if_pos (by omega)]
      · rw [if_neg (by omega)]; exact hl.2.1
      · rw [if_neg (by omega)]; exact hl.2.2
    · refine ⟨?_, ?_, ?_⟩
      · rw [if_neg (by omega)]; exact hl.1
      · rw [if_pos rfl, if_pos (by omega)]
      · rw [if_neg (by omega)]; exact hl.2.2
    · refine ⟨?_, ?_, ?_⟩
      · rw [if_neg (by omega)]; exact hl.1
      · rw [if_neg (by omega)]; exact hl.2.1
      · rw [if_pos rfl, if_pos (by omega)]
  · rw [if_neg e1] at hj
    have hj' := h2 j y hj
    have hcl : c ≤ 2 := by rcases hc with ⟨rfl, _⟩ | ⟨rfl, _⟩ | ⟨rfl, _⟩ <;> omega
    refine ⟨?_, ?_, ?_⟩
    · rw [if_neg (by omega)]; exact hj'.1
    · rw [if_neg (by omega)]; exact hj'.2.1
    · rw [if_neg (by omega)]; exact hj'.2.2
/-- The matcher's own block. -/
structure Mx (w : World) (mb eb qb n ec : Nat) (lv : Value) : Prop where
  mk :: (out : w.heap[mb]? = some (.cells #[lv, .slice (some ⟨eb, 0, none⟩) n ec, .map (some qb)] 177 (0, 0)))
theorem Mx.cells {w : World} {mb eb qb n ec : Nat} {lv : Value} (h : Mx w mb eb qb n ec lv) : w.cell? ⟨mb, 0, none⟩ = some lv ∧ w.cell? ⟨mb, 1, none⟩ = some (.slice (some ⟨eb, 0, none⟩) n ec) ∧ w.cell? ⟨mb, 2, none⟩ = some (.map (some qb)) := by
  rw [Lib.cell_of_heap h.out, Lib.cell_of_heap h.out, Lib.cell_of_heap h.out]; exact ⟨rfl, rfl, rfl⟩
theorem Mx.ne {w : World} {mb eb qb n ec : Nat} {lv : Value} {E : List Ee} (h : Mx w mb eb qb n ec lv) (k : Ent w eb E) : mb ≠ eb := fun e => by
  obtain ⟨cur, h1, _⟩ := k.ex
  rw [← e, h.out] at h1; cases h1
theorem Mx.same {w w' : World} {mb eb qb n ec : Nat} {lv : Value} (h : Mx w mb eb qb n ec lv) (k : w'.heap[mb]? = w.heap[mb]?) : Mx w' mb eb qb n ec lv := ⟨k.trans h.out⟩
/-- Only block eb has turned; new blocks may lie behind. -/
structure On (eb : Nat) (w w' : World) : Prop where
  mk :: (out : w.grownBy w' (some eb))
theorem On.trans {eb : Nat} {a b c : World} (h : On eb a b) (k : On eb b c) : On eb a c :=
  ⟨⟨k.out.os.trans h.out.os, k.out.tape.trans h.out.tape, k.out.output.trans h.out.output, Nat.le_trans h.out.size k.out.size, fun i hi hn => (k.out.block i (Nat.lt_of_lt_of_le hi h.out.size) hn).trans (h.out.block i hi hn)⟩⟩
theorem On.of_bl {eb : Nat} {a b : World} (h : Bl a b) : On eb a b := ⟨⟨h.out.os, h.out.tape, h.out.output, h.size, fun _ hi _ => h.block hi⟩⟩
theorem On.set (eb o : Nat) (w : World) (v : Value) : On eb w (w.setCell ⟨eb, o, none⟩ v) := ⟨⟨rfl, rfl, rfl, by simp, fun i _ hi => Below.heap_setCell w _ _ i (fun e => hi (by rw [e]))⟩⟩
theorem Mx.on {w w' : World} {mb eb qb n ec : Nat} {lv : Value} {E : List Ee} (h : Mx w mb eb qb n ec lv) (hE : Ent w eb E) (k : On eb w w') : Mx w' mb eb qb n ec lv :=
  h.same (k.out.block mb (heap_lt h.out) (fun e => h.ne hE (Option.some.inj e)))

def setN (E : List Ee) (i : Nat) (x : Int) : List Ee := E.set i { E.getD i default with n := x }
def setP (E : List Ee) (i : Nat) (x : Int) : List Ee := E.set i { E.getD i default with p := x }
def setL (E : List Ee) (i : Nat) (x : Int) : List Ee := E.set i { E.getD i default with l := x }
/-- The entries behind a drop. -/
def dropE (E : List Ee) (k : Nat) : List Ee :=
  let x := E.getD k default
  let E1 := if 0 ≤ x.p then setN E x.p.toNat x.n else E
  let E2 := if x.n < E.length then setP E1 x.n.toNat x.p else E1
  setL E2 k 0
theorem getD_of {E : List Ee} {i : Nat} {e : Ee} (h : E[i]? = some e) : E.getD i default = e := by rw [List.getD_eq_getElem?_getD, h]; rfl
theorem Ent.setN {w : World} {eb : Nat} {E : List Ee} (h : Ent w eb E) {i : Nat} {e : Ee} (hi : E[i]? = some e) (x : Int) : Ent (w.setCell ⟨eb, i * 3 + 2, none⟩ (.int .i64 x)) eb (setN E i x) := by
  unfold YtjocbifjmchbcaaGreatDoor.setN; rw [getD_of hi]; exact h.set hi x (.inr (.inr ⟨rfl, rfl⟩))
theorem Ent.setP {w : World} {eb : Nat} {E : List Ee} (h : Ent w eb E) {i : Nat} {e : Ee} (hi : E[i]? = some e) (x : Int) : Ent (w.setCell ⟨eb, i * 3 + 1, none⟩ (.int .i64 x)) eb (setP E i x) := by
  unfold YtjocbifjmchbcaaGreatDoor.setP; rw [getD_of hi]; exact h.set hi x (.inr (.inl ⟨rfl, rfl⟩))
theorem Ent.setL {w : World} {eb : Nat} {E : List Ee} (h : Ent w eb E) {i : Nat} {e : Ee} (hi : E[i]? = some e) (x : Int) : Ent (w.setCell ⟨eb, i * 3, none⟩ (.int .i64 x)) eb (setL E i x) := by
  unfold YtjocbifjmchbcaaGreatDoor.setL; rw [getD_of hi]; exact h.set (c := 0) hi x (.inl ⟨rfl, rfl⟩)
theorem setN_len (E : List Ee) (i : Nat) (x : Int) : (setN E i x).length = E.length := by simp [setN]
theorem setP_len (E : List Ee) (i : Nat) (x : Int) : (setP E i x).length = E.length := by simp [setP]
theorem setL_len (E : List Ee) (i : Nat) (x : Int) : (setL E i x).length = E.length := by simp [setL]
theorem set_other {E : List Ee} {i j : Nat} {e : Ee} (h : i ≠ j) : (E.set i e)[j]? = E[j]? := List.getElem?_set_ne h

set_option maxRecDepth 100000 in
set_option maxHeartbeats 4000000 in
theorem drop_any (w : World) (mb eb qb n ec : Nat) (lv : Value) (E : List Ee) (k : Nat) (x : Ee) (hm : Mx w mb eb qb n ec lv) (hE : Ent w eb E) (hn : E.length = n) (hec : n ≤ ec) (hbig : n ≤ 1000000) (hk : E[k]? = some x) (hp1 : -1 ≤ x.p) (hp2 : x.p < k) (hn1 : (k : Int) < x.n) (hn2 : x.n ≤ n) :
    Calls Tryz.prog 135 #[.pointer (some ⟨mb, 0, none⟩), .int .i64 (k : Int)] w fun e w' => e = .returned (.tuple #[]) ∧ Ent w' eb (dropE E k) ∧ On eb w w' := by
  have hkn : k < n := by have := (List.getElem?_eq_some_iff.1 hk).1; omega
  have hne := hm.ne hE
  obtain ⟨c0, c1, c2⟩ := hm.cells
  obtain ⟨d0, d1, d2⟩ := hE.cells hk
  have f0 := hE.free (k * 3)
  obtain ⟨xl, xp, xn⟩ := x
  dsimp only at hp1 hp2 hn1 hn2 d0 d1 d2
  have hgd := getD_of hk
  have i0 : (0 : Int) ≤ (k : Int) := Int.natCast_nonneg _
  have i1 : (k : Int) < (n : Int) := by omega
  obtain ⟨nn, rfl⟩ : ∃ nn : Nat, xn = (nn : Int) := ⟨xn.toNat, by omega⟩
  have HD : dropE E k = setL (if (nn : Int) < E.length then setP (if 0 ≤ xp then setN E xp.toNat nn else E) nn xp else (if 0 ≤ xp then setN E xp.toNat nn else E)) k 0 := by unfold dropE; rw [hgd]; rfl
  have HQ := Lib.hid HD
  clear HD
  clear hgd
  obtain ⟨pp, hpp⟩ : ∃ pp, xp = pp := ⟨_, rfl⟩
  have hd0 : decide (0 ≤ xp) = true ∨ decide (0 ≤ xp) = false := by cases decide (0 ≤ xp) <;> simp
  have hdn : decide (nn < n) = true ∨ decide (nn < n) = false := by cases decide (nn < n) <;> simp
  clear hpp
  rcases hd0 with hd0 | hd0 <;> rcases hdn with hdn | hdn
  · go_enter Tryz.func135, Tryz.ntmps135
    go_wp2_with fail
    obtain ⟨pn, rfl⟩ : ∃ pn : Nat, xp = (pn : Int) := ⟨xp.toNat, by simp at hd0; omega⟩
    have hpk : pn < k := by omega
    obtain ⟨y, hy⟩ : ∃ y, E[pn]? = some y := ⟨_, List.getElem?_eq_getElem (by omega)⟩
    have e2 := (hE.cells hy).2.2
    have fz := hE.free (pn * 3 + 2)
    have i2 : (0 : Int) ≤ (pn : Int) := Int.natCast_nonneg _
    have i3 : (pn : Int) < (n : Int) := by omega
    have hHeld : (fun w' : World => w'.cell? ⟨mb, 1, none⟩ = some (.slice (some ⟨eb, 0, none⟩) n ec) ∧ w'.cell? ⟨eb, k * 3 + 1, none⟩ = some (.int .i64 (pn : Int)) ∧ w'.cell? ⟨eb, k * 3 + 2, none⟩ = some (.int .i64 (nn : Int))) w.drew := ⟨c1, d1, d2⟩
    refine wp_region_n (fun w' : World => w'.cell? ⟨mb, 1, none⟩ = some (.slice (some ⟨eb, 0, none⟩) n ec) ∧ w'.cell? ⟨eb, k * 3 + 1, none⟩ = some (.int .i64 (pn : Int)) ∧ w'.cell? ⟨eb, k * 3 + 2, none⟩ = some (.int .i64 (nn : Int))) [0, 1, 2, 3, 4, 5, 6, 7, 8, 9, 10, 11, 12, 13] (by kernel_rfl) ?_
    refine wpAnyN_take (i := 0) (v := ?apv1) rfl (by kernel_rfl) (by kernel_rfl) (by kernel_rfl) (by kernel_rfl) (by kernel_rfl) (fun _ _ _ h => h) (Or.inl ⟨by rfl, ?aph1⟩) hHeld ?_
    case aph1 => (intro w hSw; (try dsimp only at hSw); go_simp; try with_reducible rfl)
    refine wpAnyN_take (i := 1) (v := ?apv2) rfl (by kernel_rfl) (by kernel_rfl) (by kernel_rfl) (by kernel_rfl) (by kernel_rfl) (fun _ _ _ h => h) (Or.inl ⟨by rfl, ?aph2⟩) hHeld ?_
    case aph2 => (intro w hSw; (try dsimp only at hSw); go_simp; try with_reducible rfl)
    refine wpAnyN_take (i := 2) (v := ?apv3) rfl (by kernel_rfl) (by kernel_rfl) (by kernel_rfl) (by kernel_rfl) (by kernel_rfl) (fun _ _ _ h => h) (Or.inl ⟨by rfl, ?aph3⟩) hHeld ?_
    case aph3 => (intro w hSw; (try dsimp only at hSw); go_simp; try with_reducible rfl)
    refine wpAnyN_take (i := 3) (v := ?apv4) rfl (by kernel_rfl) (by kernel_rfl) (by kernel_rfl) (by kernel_rfl) (by kernel_rfl) (fun _ _ _ h => h) (Or.inl ⟨by rfl, ?aph4⟩) hHeld ?_
    case aph4 => (intro w hSw; (try dsimp only at hSw); go_simp; try with_reducible rfl)
    refine wpAnyN_take (i := 4) (v := ?apv5) rfl (by kernel_rfl) (by kernel_rfl) (by kernel_rfl) (by kernel_rfl) (by kernel_rfl) (fun _ _ _ h => h) (Or.inl ⟨by rfl, ?aph5⟩) hHeld ?_
    case aph5 => (intro w hSw; (try dsimp only at hSw); go_simp; try with_reducible rfl)
    refine wpAnyN_take (i := 5) (v := ?apv6) rfl (by kernel_rfl) (by kernel_rfl) (by kernel_rfl) (by kernel_rfl) (by kernel_rfl) (fun _ _ _ h => h) (Or.inl ⟨by rfl, ?aph6⟩) hHeld ?_
    case aph6 => (intro w hSw; (try dsimp only at hSw); go_simp; try with_reducible rfl)
    refine wpAnyN_take (i := 6) (v := ?apv7) rfl (by kernel_rfl) (by kernel_rfl) (by kernel_rfl) (by kernel_rfl) (by kernel_rfl) (fun _ _ _ h => h) (Or.inl ⟨by rfl, ?aph7⟩) hHeld ?_
    case aph7 => (intro w hSw; (try dsimp only at hSw); go_simp; try with_reducible rfl)
    refine wpAnyN_take (i := 7) (v := ?apv8) rfl (by kernel_rfl) (by kernel_rfl) (by kernel_rfl) (by kernel_rfl) (by kernel_rfl) (fun _ _ _ h => h) (Or.inl ⟨by rfl, ?aph8⟩) hHeld ?_
    case aph8 => (intro w hSw; (try dsimp only at hSw); go_simp; try with_reducible rfl)
    refine wpAnyN_take (i := 8) (v := ?apv9) rfl (by kernel_rfl) (by kernel_rfl) (by kernel_rfl) (by kernel_rfl) (by kernel_rfl) (fun _ _ _ h => h) (Or.inl ⟨by rfl, ?aph9⟩) hHeld ?_
    case aph9 => (intro w hSw; (try dsimp only at hSw); go_simp; try with_reducible rfl)
    refine wpAnyN_take (i := 9) (v := ?apv10) rfl (by kernel_rfl) (by kernel_rfl) (by kernel_rfl) (by kernel_rfl) (by kernel_rfl) (fun _ _ _ h => h) (Or.inl ⟨by rfl, ?aph10⟩) hHeld ?_
    case aph10 => (intro w hSw; (try dsimp only at hSw); go_simp; try with_reducible rfl)
    refine wpAnyN_take (i := 10) (v := ?apv11) rfl (by kernel_rfl) (by kernel_rfl) (by kernel_rfl) (by kernel_rfl) (by kernel_rfl) (fun _ _ _ h => h) (Or.inl ⟨by rfl, ?aph11⟩) hHeld ?_
    case aph11 => (intro w hSw; (try dsimp only at hSw); go_simp; try with_reducible rfl)
    refine wpAnyN_take (i := 11) (v := ?apv12) rfl (by kernel_rfl) (by kernel_rfl) (by kernel_rfl) (by kernel_rfl) (by kernel_rfl) (fun _ _ _ h => h) (Or.inl ⟨by rfl, ?aph12⟩) hHeld ?_
    case aph12 => (intro w hSw; (try dsimp only at hSw); go_simp; try with_reducible rfl)
    refine wpAnyN_take (i := 12) (v := ?apv13) rfl (by kernel_rfl) (by kernel_rfl) (by kernel_rfl) (by kernel_rfl) (by kernel_rfl) (fun _ _ _ h => h) (Or.inl ⟨by rfl, ?aph13⟩) hHeld ?_
    case aph13 => (intro w hSw; (try dsimp only at hSw); go_simp; try with_reducible rfl)
    refine wpAnyN_take (i := 13) (v := ?apv14) rfl (by kernel_rfl) (by kernel_rfl) (by kernel_rfl) (by kernel_rfl) (by kernel_rfl) (fun _ _ _ h => h) (Or.inl ⟨by rfl, ?aph14⟩) hHeld ?_
    case aph14 => (intro w hSw; (try dsimp only at hSw); go_simp; try with_reducible rfl)
    refine wpAnyN_ready (rs := [14]) (by kernel_rfl) (by simp) ?_
    refine AllN.cons rfl (fun K apK15 => ?_) ?_
    · go_simp
      refine apK15.out _ _ (not_early (by kernel_rfl)) ?_
      clear apK15 K
      refine wpAnyN_done (by kernel_rfl) ?_ _
      have hE2 := (hE.setN hy (nn : Int)).same (w' := (w.setCell ⟨eb, pn * 3 + 2, none⟩ (.int .i64 (nn : Int))).drew) rfl
      have hO2 : On eb w (w.setCell ⟨eb, pn * 3 + 2, none⟩ (.int .i64 (nn : Int))).drew := (On.set eb _ _ _).trans (On.of_bl (Bl.refl _).drew)
      have hk2 : (setN E pn nn)[k]? = some ⟨xl, pn, nn⟩ := by unfold setN; rw [set_other (by omega)]; exact hk
      have hl2 : (setN E pn nn).length = n := by rw [setN_len]; exact hn
      have hX := Lib.hid (show (if 0 ≤ (pn : Int) then setN E (pn : Int).toNat (nn : Int) else E) = setN E pn nn from by rw [if_pos i2]; rfl)
      generalize setN E pn (nn : Int) = E2 at hE2 hk2 hl2 hX
      obtain ⟨w2, hw2⟩ : ∃ w2, (w.setCell ⟨eb, pn * 3 + 2, none⟩ (.int .i64 (nn : Int))).drew = w2 := ⟨_, rfl⟩
      rw [hw2] at hE2 hO2 ⊢
      clear hw2
      have hm2 := hm.on hE hO2
      obtain ⟨_, g1, _⟩ := hm2.cells
      obtain ⟨g3, g4, g5⟩ := hE2.cells hk2
      dsimp only at g3 g4 g5
      have gz := hE2.free (k * 3)
      go_wp2_with fail
      go_quiet (fail)
      go_wp2_with fail
      have i5 : (nn : Int) < (n : Int) := by simp at hdn; omega
      have i4 : (0 : Int) ≤ (nn : Int) := Int.natCast_nonneg _
      obtain ⟨z, hz⟩ : ∃ z, E2[nn]? = some z := ⟨_, List.getElem?_eq_getElem (by omega)⟩
      have e1 := (hE2.cells hz).2.1
      have fz1 := hE2.free (nn * 3 + 1)
      have hHeld2 : (fun w' : World => w'.cell? ⟨mb, 1, none⟩ = some (.slice (some ⟨eb, 0, none⟩) n ec) ∧ w'.cell? ⟨eb, k * 3 + 1, none⟩ = some (.int .i64 (pn : Int)) ∧ w'.cell? ⟨eb, k * 3 + 2, none⟩ = some (.int .i64 (nn : Int))) (w2.drewN nq).drew := ⟨g1, g4, g5⟩
      refine wp_region_n (fun w' : World => w'.cell? ⟨mb, 1, none⟩ = some (.slice (some ⟨eb, 0, none⟩) n ec) ∧ w'.cell? ⟨eb, k * 3 + 1, none⟩ = some (.int .i64 (pn : Int)) ∧ w'.cell? ⟨eb, k * 3 + 2, none⟩ = some (.int .i64 (nn : Int))) [0, 1, 2, 3, 4, 5, 6, 7, 8, 9, 10, 11, 12, 13] (by kernel_rfl) ?_
      refine wpAnyN_take (i := 0) (v := ?anv1) rfl (by kernel_rfl) (by kernel_rfl) (by kernel_rfl) (by kernel_rfl) (by kernel_rfl) (fun _ _ _ h => h) (Or.inl ⟨by rfl, ?anh1⟩) hHeld2 ?_
      case anh1 => (intro w hSw; (try dsimp only at hSw); go_simp; try with_reducible rfl)
      refine wpAnyN_take (i := 1) (v := ?anv2) rfl (by kernel_rfl) (by kernel_rfl) (by kernel_rfl) (by kernel_rfl) (by kernel_rfl) (fun _ _ _ h => h) (Or.inl ⟨by rfl, ?anh2⟩) hHeld2 ?_
      case anh2 => (intro w hSw; (try dsimp only at hSw); go_simp; try with_reducible rfl)
      refine wpAnyN_take (i := 2) (v := ?anv3) rfl (by kernel_rfl) (by kernel_rfl) (by kernel_rfl) (by kernel_rfl) (by kernel_rfl) (fun _ _ _ h => h) (Or.inl ⟨by rfl, ?anh3⟩) hHeld2 ?_
      case anh3 => (intro w hSw; (try dsimp only at hSw); go_simp; try with_reducible rfl)
      refine wpAnyN_take (i := 3) (v := ?anv4) rfl (by kernel_rfl) (by kernel_rfl) (by kernel_rfl) (by kernel_rfl) (by kernel_rfl) (fun _ _ _ h => h) (Or.inl ⟨by rfl, ?anh4⟩) hHeld2 ?_
      case anh4 => (intro w hSw; (try dsimp only at hSw); go_simp; try with_reducible rfl)
      refine wpAnyN_take (i := 4) (v := ?anv5) rfl (by kernel_rfl) (by kernel_rfl) (by kernel_rfl) (by kernel_rfl) (by kernel_rfl) (fun _ _ _ h => h) (Or.inl ⟨by rfl, ?anh5⟩) hHeld2 ?_
      case anh5 => (intro w hSw; (try dsimp only at hSw); go_simp; try with_reducible rfl)
      refine wpAnyN_take (i := 5) (v := ?anv6) rfl (by kernel_rfl) (by kernel_rfl) (by kernel_rfl) (by kernel_rfl) (by kernel_rfl) (fun _ _ _ h => h) (Or.inl ⟨by rfl, ?anh6⟩) hHeld2 ?_
      case anh6 => (intro w hSw; (try dsimp only at hSw); go_simp; try with_reducible rfl)
      refine wpAnyN_take (i := 6) (v := ?anv7) rfl (by kernel_rfl) (by kernel_rfl) (by kernel_rfl) (by kernel_rfl) (by kernel_rfl) (fun _ _ _ h => h) (Or.inl ⟨by rfl, ?anh7⟩) hHeld2 ?_
      case anh7 => (intro w hSw; (try dsimp only at hSw); go_simp; try with_reducible rfl)
      refine wpAnyN_take (i := 7) (v := ?anv8) rfl (by kernel_rfl) (by kernel_rfl) (by kernel_rfl) (by kernel_rfl) (by kernel_rfl) (fun _ _ _ h => h) (Or.inl ⟨by rfl, ?anh8⟩) hHeld2 ?_
      case anh8 => (intro w hSw; (try dsimp only at hSw); go_simp; try with_reducible rfl)
      refine wpAnyN_take (i := 8) (v := ?anv9) rfl (by kernel_rfl) (by kernel_rfl) (by kernel_rfl) (by kernel_rfl) (by kernel_rfl) (fun _ _ _ h => h) (Or.inl ⟨by rfl, ?anh9⟩) hHeld2 ?_
      case anh9 => (intro w hSw; (try dsimp only at hSw); go_simp; try with_reducible rfl)
      refine wpAnyN_take (i := 9) (v := ?anv10) rfl (by kernel_rfl) (by kernel_rfl) (by kernel_rfl) (by kernel_rfl) (by kernel_rfl) (fun _ _ _ h => h) (Or.inl ⟨by rfl, ?anh10⟩) hHeld2 ?_
      case anh10 => (intro w hSw; (try dsimp only at hSw); go_simp; try with_reducible rfl)
      refine wpAnyN_take (i := 10) (v := ?anv11) rfl (by kernel_rfl) (by kernel_rfl) (by kernel_rfl) (by kernel_rfl) (by kernel_rfl) (fun _ _ _ h => h) (Or.inl ⟨by rfl, ?anh11⟩) hHeld2 ?_
      case anh11 => (intro w hSw; (try dsimp only at hSw); go_simp; try with_reducible rfl)
      refine wpAnyN_take (i := 11) (v := ?anv12) rfl (by kernel_rfl) (by kernel_rfl) (by kernel_rfl) (by kernel_rfl) (by kernel_rfl) (fun _ _ _ h => h) (Or.inl ⟨by rfl, ?anh12⟩) hHeld2 ?_
      case anh12 => (intro w hSw; (try dsimp only at hSw); go_simp; try with_reducible rfl)
      refine wpAnyN_take (i := 12) (v := ?anv13) rfl (by kernel_rfl) (by kernel_rfl) (by kernel_rfl) (by kernel_rfl) (by kernel_rfl) (fun _ _ _ h => h) (Or.inl ⟨by rfl, ?anh13⟩) hHeld2 ?_
      case anh13 => (intro w hSw; (try dsimp only at hSw); go_simp; try with_reducible rfl)
      refine wpAnyN_take (i := 13) (v := ?anv14) rfl (by kernel_rfl) (by kernel_rfl) (by kernel_rfl) (by kernel_rfl) (by kernel_rfl) (fun _ _ _ h => h) (Or.inl ⟨by rfl, ?anh14⟩) hHeld2 ?_
      case anh14 => (intro w hSw; (try dsimp only at hSw); go_simp; try with_reducible rfl)
      refine wpAnyN_ready (rs := [14]) (by kernel_rfl) (by simp) ?_
      refine AllN.cons rfl (fun K anK15 => ?_) ?_
      · go_simp
        refine anK15.out _ _ (not_early (by kernel_rfl)) ?_
        clear anK15 K
        refine wpAnyN_done (by kernel_rfl) ?_ _
        have hE3 := (hE2.setP hz (pn : Int)).same (w' := ((w2.setCell ⟨eb, nn * 3 + 1, none⟩ (.int .i64 (pn : Int))).drewN nq).drew) rfl
        have hO3 : On eb w2 ((w2.setCell ⟨eb, nn * 3 + 1, none⟩ (.int .i64 (pn : Int))).drewN nq).drew := (On.set eb _ _ _).trans (On.of_bl ((Bl.refl _).drewN nq).drew)
        have hk3 : (setP E2 nn (pn : Int))[k]? = some ⟨xl, (pn : Int), nn⟩ := by unfold setP; rw [set_other (by omega)]; exact hk2
        have hX2 := Lib.hid (show (if (nn : Int) < (E.length : Int) then setP E2 (nn : Nat) (pn : Int) else E2) = setP E2 nn (pn : Int) from if_pos (by omega))
        obtain ⟨w3, hw3⟩ : ∃ w3, ((w2.setCell ⟨eb, nn * 3 + 1, none⟩ (.int .i64 (pn : Int))).drewN nq).drew = w3 := ⟨_, rfl⟩
        change Exit.then _ _ Exit.normal _ ((w2.setCell ⟨eb, nn * 3 + 1, none⟩ (.int .i64 (pn : Int))).drewN nq).drew
        rw [hw3] at hE3 hO3 ⊢
        clear hw3
        have h0 := (hE3.cells hk3).1
        dsimp only at h0
        have hz0 := hE3.free (k * 3)
        go_wp2
        go_end0
        exact ⟨rfl, by rw [HQ.out, hX.out, hX2.out]; exact hE3.setL hk3 0, (hO2.trans hO3).trans (On.set eb _ _ _)⟩
      exact AllN.nil
    exact AllN.nil
  · go_enter Tryz.func135, Tryz.ntmps135
    go_wp2_with fail
    obtain ⟨pn, rfl⟩ : ∃ pn : Nat, xp = (pn : Int) := ⟨xp.toNat, by simp at hd0; omega⟩
    have hpk : pn < k := by omega
    obtain ⟨y, hy⟩ : ∃ y, E[pn]? = some y := ⟨_, List.getElem?_eq_getElem (by omega)⟩
    have e2 := (hE.cells hy).2.2
    have fz := hE.free (pn * 3 + 2)
    have i2 : (0 : Int) ≤ (pn : Int) := Int.natCast_nonneg _
    have i3 : (pn : Int) < (n : Int) := by omega
    have hHeld : (fun w' : World => w'.cell? ⟨mb, 1, none⟩ = some (.slice (some ⟨eb, 0, none⟩) n ec) ∧ w'.cell? ⟨eb, k * 3 + 1, none⟩ = some (.int .i64 (pn : Int)) ∧ w'.cell? ⟨eb, k * 3 + 2, none⟩ = some (.int .i64 (nn : Int))) w.drew := ⟨c1, d1, d2⟩
    refine wp_region_n (fun w' : World => w'.cell? ⟨mb, 1, none⟩ = some (.slice (some ⟨eb, 0, none⟩) n ec) ∧ w'.cell? ⟨eb, k * 3 + 1, none⟩ = some (.int .i64 (pn : Int)) ∧ w'.cell? ⟨eb, k * 3 + 2, none⟩ = some (.int .i64 (nn : Int))) [0, 1, 2, 3, 4, 5, 6, 7, 8, 9, 10, 11, 12, 13] (by kernel_rfl) ?_
    refine wpAnyN_take (i := 0) (v := ?bpv1) rfl (by kernel_rfl) (by kernel_rfl) (by kernel_rfl) (by kernel_rfl) (by kernel_rfl) (fun _ _ _ h => h) (Or.inl ⟨by rfl, ?bph1⟩) hHeld ?_
    case bph1 => (intro w hSw; (try dsimp only at hSw); go_simp; try with_reducible rfl)
    refine wpAnyN_take (i := 1) (v := ?bpv2) rfl (by kernel_rfl) (by kernel_rfl) (by kernel_rfl) (by kernel_rfl) (by kernel_rfl) (fun _ _ _ h => h) (Or.inl ⟨by rfl, ?bph2⟩) hHeld ?_
    case bph2 => (intro w hSw; (try dsimp only at hSw); go_simp; try with_reducible rfl)
    refine wpAnyN_take (i := 2) (v := ?bpv3) rfl (by kernel_rfl) (by kernel_rfl) (by kernel_rfl) (by kernel_rfl) (by kernel_rfl) (fun _ _ _ h => h) (Or.inl ⟨by rfl, ?bph3⟩) hHeld ?_
    case bph3 => (intro w hSw; (try dsimp only at hSw); go_simp; try with_reducible rfl)
    refine wpAnyN_take (i := 3) (v := ?bpv4) rfl (by kernel_rfl) (by kernel_rfl) (by kernel_rfl) (by kernel_rfl) (by kernel_rfl) (fun _ _ _ h => h) (Or.inl ⟨by rfl, ?bph4⟩) hHeld ?_
    case bph4 => (intro w hSw; (try dsimp only at hSw); go_simp; try with_reducible rfl)
    refine wpAnyN_take (i := 4) (v := ?bpv5) rfl (by kernel_rfl) (by kernel_rfl) (by kernel_rfl) (by kernel_rfl) (by kernel_rfl) (fun _ _ _ h => h) (Or.inl ⟨by rfl, ?bph5⟩) hHeld ?_
    case bph5 => (intro w hSw; (try dsimp only at hSw); go_simp; try with_reducible rfl)
    refine wpAnyN_take (i := 5) (v := ?bpv6) rfl (by kernel_rfl) (by kernel_rfl) (by kernel_rfl) (by kernel_rfl) (by kernel_rfl) (fun _ _ _ h => h) (Or.inl ⟨by rfl, ?bph6⟩) hHeld ?_
    case bph6 => (intro w hSw; (try dsimp only at hSw); go_simp; try with_reducible rfl)
    refine wpAnyN_take (i := 6) (v := ?bpv7) rfl (by kernel_rfl) (by kernel_rfl) (by kernel_rfl) (by kernel_rfl) (by kernel_rfl) (fun _ _ _ h => h) (Or.inl ⟨by rfl, ?bph7⟩) hHeld ?_
    case bph7 => (intro w hSw; (try dsimp only at hSw); go_simp; try with_reducible rfl)
    refine wpAnyN_take (i := 7) (v := ?bpv8) rfl (by kernel_rfl) (by kernel_rfl) (by kernel_rfl) (by kernel_rfl) (by kernel_rfl) (fun _ _ _ h => h) (Or.inl ⟨by rfl, ?bph8⟩) hHeld ?_
    case bph8 => (intro w hSw; (try dsimp only at hSw); go_simp; try with_reducible rfl)
    refine wpAnyN_take (i := 8) (v := ?bpv9) rfl (by kernel_rfl) (by kernel_rfl) (by kernel_rfl) (by kernel_rfl) (by kernel_rfl) (fun _ _ _ h => h) (Or.inl ⟨by rfl, ?bph9⟩) hHeld ?_
    case bph9 => (intro w hSw; (try dsimp only at hSw); go_simp; try with_reducible rfl)
    refine wpAnyN_take (i := 9) (v := ?bpv10) rfl (by kernel_rfl) (by kernel_rfl) (by kernel_rfl) (by kernel_rfl) (by kernel_rfl) (fun _ _ _ h => h) (Or.inl ⟨by rfl, ?bph10⟩) hHeld ?_
    case bph10 => (intro w hSw; (try dsimp only at hSw); go_simp; try with_reducible rfl)
    refine wpAnyN_take (i := 10) (v := ?bpv11) rfl (by kernel_rfl) (by kernel_rfl) (by kernel_rfl) (by kernel_rfl) (by kernel_rfl) (fun _ _ _ h => h) (Or.inl ⟨by rfl, ?bph11⟩) hHeld ?_
    case bph11 => (intro w hSw; (try dsimp only at hSw); go_simp; try with_reducible rfl)
    refine wpAnyN_take (i := 11) (v := ?bpv12) rfl (by kernel_rfl) (by kernel_rfl) (by kernel_rfl) (by kernel_rfl) (by kernel_rfl) (fun _ _ _ h => h) (Or.inl ⟨by rfl, ?bph12⟩) hHeld ?_
    case bph12 => (intro w hSw; (try dsimp only at hSw); go_simp; try with_reducible rfl)
    refine wpAnyN_take (i := 12) (v := ?bpv13) rfl (by kernel_rfl) (by kernel_rfl) (by kernel_rfl) (by kernel_rfl) (by kernel_rfl) (fun _ _ _ h => h) (Or.inl ⟨by rfl, ?bph13⟩) hHeld ?_
    case bph13 => (intro w hSw; (try dsimp only at hSw); go_simp; try with_reducible rfl)
    refine wpAnyN_take (i := 13) (v := ?bpv14) rfl (by kernel_rfl) (by kernel_rfl) (by kernel_rfl) (by kernel_rfl) (by kernel_rfl) (fun _ _ _ h => h) (Or.inl ⟨by rfl, ?bph14⟩) hHeld ?_
    case bph14 => (intro w hSw; (try dsimp only at hSw); go_simp; try with_reducible rfl)
    refine wpAnyN_ready (rs := [14]) (by kernel_rfl) (by simp) ?_
    refine AllN.cons rfl (fun K bpK15 => ?_) ?_
    · go_simp
      refine bpK15.out _ _ (not_early (by kernel_rfl)) ?_
      clear bpK15 K
      refine wpAnyN_done (by kernel_rfl) ?_ _
      have hE2 := (hE.setN hy (nn : Int)).same (w' := (w.setCell ⟨eb, pn * 3 + 2, none⟩ (.int .i64 (nn : Int))).drew) rfl
      have hO2 : On eb w (w.setCell ⟨eb, pn * 3 + 2, none⟩ (.int .i64 (nn : Int))).drew := (On.set eb _ _ _).trans (On.of_bl (Bl.refl _).drew)
      have hk2 : (setN E pn nn)[k]? = some ⟨xl, pn, nn⟩ := by unfold setN; rw [set_other (by omega)]; exact hk
      have hl2 : (setN E pn nn).length = n := by rw [setN_len]; exact hn
      have hX := Lib.hid (show (if 0 ≤ (pn : Int) then setN E (pn : Int).toNat (nn : Int) else E) = setN E pn nn from by rw [if_pos i2]; rfl)
      generalize setN E pn (nn : Int) = E2 at hE2 hk2 hl2 hX
      obtain ⟨w2, hw2⟩ : ∃ w2, (w.setCell ⟨eb, pn * 3 + 2, none⟩ (.int .i64 (nn : Int))).drew = w2 := ⟨_, rfl⟩
      rw [hw2] at hE2 hO2 ⊢
      clear hw2
      have hm2 := hm.on hE hO2
      obtain ⟨_, g1, _⟩ := hm2.cells
      obtain ⟨g3, g4, g5⟩ := hE2.cells hk2
      dsimp only at g3 g4 g5
      have gz := hE2.free (k * 3)
      go_wp2_with fail
      go_quiet (fail)
      go_wp2_with fail
      have hX2 := Lib.hid (show (if (nn : Int) < (E.length : Int) then setP E2 (nn : Nat) (pn : Int) else E2) = E2 from if_neg (by simp at hdn; omega))
      go_wp2
      go_end0
      exact ⟨rfl, by rw [HQ.out, hX.out, hX2.out]; exact (hE2.same (w' := w2.drewN nq) rfl).setL hk2 0, (hO2.trans (On.of_bl ((Bl.refl w2).drewN nq))).trans (On.set eb _ _ _)⟩
    exact AllN.nil
  · go_enter Tryz.func135, Tryz.ntmps135
    go_wp2_with fail
    have hE2 := hE
    have hO2 : On eb w w := On.of_bl (Bl.refl w)
    have hk2 := hk
    have hl2 := hn
    have hX := Lib.hid (show (if 0 ≤ xp then setN E xp.toNat (nn : Int) else E) = E from if_neg (by simp at hd0; omega))
    obtain ⟨w2, rfl⟩ : ∃ w2, w2 = w := ⟨w, rfl⟩
    have hm2 := hm.on hE hO2
    obtain ⟨_, g1, _⟩ := hm2.cells
    obtain ⟨g3, g4, g5⟩ := hE2.cells hk2
    dsimp only at g3 g4 g5
    have gz := hE2.free (k * 3)
    go_wp2_with fail
    go_quiet (fail)
    go_wp2_with fail
    have i5 : (nn : Int) < (n : Int) := by simp at hdn; omega
    have i4 : (0 : Int) ≤ (nn : Int) := Int.natCast_nonneg _
    obtain ⟨z, hz⟩ : ∃ z, E[nn]? = some z := ⟨_, List.getElem?_eq_getElem (by omega)⟩
    have e1 := (hE2.cells hz).2.1
    have fz1 := hE2.free (nn * 3 + 1)
    have hHeld2 : (fun w' : World => w'.cell? ⟨mb, 1, none⟩ = some (.slice (some ⟨eb, 0, none⟩) n ec) ∧ w'.cell? ⟨eb, k * 3 + 1, none⟩ = some (.int .i64 xp) ∧ w'.cell? ⟨eb, k * 3 + 2, none⟩ = some (.int .i64 (nn : Int))) (w2.drewN nq).drew := ⟨g1, g4, g5⟩
    refine wp_region_n (fun w' : World => w'.cell? ⟨mb, 1, none⟩ = some (.slice (some ⟨eb, 0, none⟩) n ec) ∧ w'.cell? ⟨eb, k * 3 + 1, none⟩ = some (.int .i64 xp) ∧ w'.cell? ⟨eb, k * 3 + 2, none⟩ = some (.int .i64 (nn : Int))) [0, 1, 2, 3, 4, 5, 6, 7, 8, 9, 10, 11, 12, 13] (by kernel_rfl) ?_
    refine wpAnyN_take (i := 0) (v := ?cnv1) rfl (by kernel_rfl) (by kernel_rfl) (by kernel_rfl) (by kernel_rfl) (by kernel_rfl) (fun _ _ _ h => h) (Or.inl ⟨by rfl, ?cnh1⟩) hHeld2 ?_
    case cnh1 => (intro w hSw; (try dsimp only at hSw); go_simp; try with_reducible rfl)
    refine wpAnyN_take (i := 1) (v := ?cnv2) rfl (by kernel_rfl) (by kernel_rfl) (by kernel_rfl) (by kernel_rfl) (by kernel_rfl) (fun _ _ _ h => h) (Or.inl ⟨by rfl, ?cnh2⟩) hHeld2 ?_
    case cnh2 => (intro w hSw; (try dsimp only at hSw); go_simp; try with_reducible rfl)
    refine wpAnyN_take (i := 2) (v := ?cnv3) rfl (by kernel_rfl) (by kernel_rfl) (by kernel_rfl) (by kernel_rfl) (by kernel_rfl) (fun _ _ _ h => h) (Or.inl ⟨by rfl, ?cnh3⟩) hHeld2 ?_
    case cnh3 => (intro w hSw; (try dsimp only at hSw); go_simp; try with_reducible rfl)
    refine wpAnyN_take (i := 3) (v := ?cnv4) rfl (by kernel_rfl) (by kernel_rfl) (by kernel_rfl) (by kernel_rfl) (by kernel_rfl) (fun _ _ _ h => h) (Or.inl ⟨by rfl, ?cnh4⟩) hHeld2 ?_
    case cnh4 => (intro w hSw; (try dsimp only at hSw); go_simp; try with_reducible rfl)
    refine wpAnyN_take (i := 4) (v := ?cnv5) rfl (by kernel_rfl) (by kernel_rfl) (by kernel_rfl) (by kernel_rfl) (by kernel_rfl) (fun _ _ _ h => h) (Or.inl ⟨by rfl, ?cnh5⟩) hHeld2 ?_
    case cnh5 => (intro w hSw; (try dsimp only at hSw); go_simp; try with_reducible rfl)
    refine wpAnyN_take (i := 5) (v := ?cnv6) rfl (by kernel_rfl) (by kernel_rfl) (by kernel_rfl) (by kernel_rfl) (by kernel_rfl) (fun _ _ _ h => h) (Or.inl ⟨by rfl, ?cnh6⟩) hHeld2 ?_
    case cnh6 => (intro w hSw; (try dsimp only at hSw); go_simp; try with_reducible rfl)
    refine wpAnyN_take (i := 6) (v := ?cnv7) rfl (by kernel_rfl) (by kernel_rfl) (by kernel_rfl) (by kernel_rfl) (by kernel_rfl) (fun _ _ _ h => h) (Or.inl ⟨by rfl, ?cnh7⟩) hHeld2 ?_
    case cnh7 => (intro w hSw; (try dsimp only at hSw); go_simp; try with_reducible rfl)
    refine wpAnyN_take (i := 7) (v := ?cnv8) rfl (by kernel_rfl) (by kernel_rfl) (by kernel_rfl) (by kernel_rfl) (by kernel_rfl) (fun _ _ _ h => h) (Or.inl ⟨by rfl, ?cnh8⟩) hHeld2 ?_
    case cnh8 => (intro w hSw; (try dsimp only at hSw); go_simp; try with_reducible rfl)
    refine wpAnyN_take (i := 8) (v := ?cnv9) rfl (by kernel_rfl) (by kernel_rfl) (by kernel_rfl) (by kernel_rfl) (by kernel_rfl) (fun _ _ _ h => h) (Or.inl ⟨by rfl, ?cnh9⟩) hHeld2 ?_
    case cnh9 => (intro w hSw; (try dsimp only at hSw); go_simp; try with_reducible rfl)
    refine wpAnyN_take (i := 9) (v := ?cnv10) rfl (by kernel_rfl) (by kernel_rfl) (by kernel_rfl) (by kernel_rfl) (by kernel_rfl) (fun _ _ _ h => h) (Or.inl ⟨by rfl, ?cnh10⟩) hHeld2 ?_
    case cnh10 => (intro w hSw; (try dsimp only at hSw); go_simp; try with_reducible rfl)
    refine wpAnyN_take (i := 10) (v := ?cnv11) rfl (by kernel_rfl) (by kernel_rfl) (by kernel_rfl) (by kernel_rfl) (by kernel_rfl) (fun _ _ _ h => h) (Or.inl ⟨by rfl, ?cnh11⟩) hHeld2 ?_
    case cnh11 => (intro w hSw; (try dsimp only at hSw); go_simp; try with_reducible rfl)
    refine wpAnyN_take (i := 11) (v := ?cnv12) rfl (by kernel_rfl) (by kernel_rfl) (by kernel_rfl) (by kernel_rfl) (by kernel_rfl) (fun _ _ _ h => h) (Or.inl ⟨by rfl, ?cnh12⟩) hHeld2 ?_
    case cnh12 => (intro w hSw; (try dsimp only at hSw); go_simp; try with_reducible rfl)
    refine wpAnyN_take (i := 12) (v := ?cnv13) rfl (by kernel_rfl) (by kernel_rfl) (by kernel_rfl) (by kernel_rfl) (by kernel_rfl) (fun _ _ _ h => h) (Or.inl ⟨by rfl, ?cnh13⟩) hHeld2 ?_
    case cnh13 => (intro w hSw; (try dsimp only at hSw); go_simp; try with_reducible rfl)
    refine wpAnyN_take (i := 13) (v := ?cnv14) rfl (by kernel_rfl) (by kernel_rfl) (by kernel_rfl) (by kernel_rfl) (by kernel_rfl) (fun _ _ _ h => h) (Or.inl ⟨by rfl, ?cnh14⟩) hHeld2 ?_
    case cnh14 => (intro w hSw; (try dsimp only at hSw); go_simp; try with_reducible rfl)
    refine wpAnyN_ready (rs := [14]) (by kernel_rfl) (by simp) ?_
    refine AllN.cons rfl (fun K cnK15 => ?_) ?_
    · go_simp
      refine cnK15.out _ _ (not_early (by kernel_rfl)) ?_
      clear cnK15 K
      refine wpAnyN_done (by kernel_rfl) ?_ _
      have hE3 := (hE2.setP hz xp).same (w' := ((w2.setCell ⟨eb, nn * 3 + 1, none⟩ (.int .i64 xp)).drewN nq).drew) rfl
      have hO3 : On eb w2 ((w2.setCell ⟨eb, nn * 3 + 1, none⟩ (.int .i64 xp)).drewN nq).drew := (On.set eb _ _ _).trans (On.of_bl ((Bl.refl _).drewN nq).drew)
      have hk3 : (setP E nn xp)[k]? = some ⟨xl, xp, nn⟩ := by unfold setP; rw [set_other (by omega)]; exact hk2
      have hX2 := Lib.hid (show (if (nn : Int) < (E.length : Int) then setP E (nn : Nat) xp else E) = setP E nn xp from if_pos (by omega))
      obtain ⟨w3, hw3⟩ : ∃ w3, ((w2.setCell ⟨eb, nn * 3 + 1, none⟩ (.int .i64 xp)).drewN nq).drew = w3 := ⟨_, rfl⟩
      change Exit.then _ _ Exit.normal _ ((w2.setCell ⟨eb, nn * 3 + 1, none⟩ (.int .i64 xp)).drewN nq).drew
      rw [hw3] at hE3 hO3 ⊢
      clear hw3
      have h0 := (hE3.cells hk3).1
      dsimp only at h0
      have hz0 := hE3.free (k * 3)
      go_wp2
      go_end0
      exact ⟨rfl, by rw [HQ.out, hX.out, hX2.out]; exact hE3.setL hk3 0, (hO2.trans hO3).trans (On.set eb _ _ _)⟩
    exact AllN.nil
  · go_enter Tryz.func135, Tryz.ntmps135
    go_wp2_with fail
    have hE2 := hE
    have hO2 : On eb w w := On.of_bl (Bl.refl w)
    have hk2 := hk
    have hl2 := hn
    have hX := Lib.hid (show (if 0 ≤ xp then setN E xp.toNat (nn : Int) else E) = E from if_neg (by simp at hd0; omega))
    obtain ⟨w2, rfl⟩ : ∃ w2, w2 = w := ⟨w, rfl⟩
    have hm2 := hm.on hE hO2
    obtain ⟨_, g1, _⟩ := hm2.cells
    obtain ⟨g3, g4, g5⟩ := hE2.cells hk2
    dsimp only at g3 g4 g5
    have gz := hE2.free (k * 3)
    go_wp2_with fail
    go_quiet (fail)
    go_wp2_with fail
    have hX2 := Lib.hid (show (if (nn : Int) < (E.length : Int) then setP E (nn : Nat) xp else E) = E from if_neg (by simp at hdn; omega))
    go_wp2
    go_end0
    exact ⟨rfl, by rw [HQ.out, hX.out, hX2.out]; exact (hE2.same (w' := w2.drewN nq) rfl).setL hk2 0, (hO2.trans (On.of_bl ((Bl.refl w2).drewN nq))).trans (On.set eb _ _ _)⟩

end Go.Proofs.YtjocbifjmchbcaaGreatDoor
/- The matcher's key and size. -/
namespace Go.Proofs.YtjocbifjmchbcaaGreatDoor
open Go.RowKit

/-- A slice of runs in memory. -/
structure Rns (w : World) (lb lo lc : Nat) (l : List Rn) : Prop where
  mk :: (ex : l.length ≤ lc ∧ ∃ cs fz, w.heap[lb]? = some (.cells cs 67 fz) ∧ ∀ (i : Nat) (r : Rn), l[i]? = some r → cs[lo + i * 4]? = some (.int .u8 (r.c.toNat : Int)) ∧ cs[lo + i * 4 + 1]? = some (.int .i64 (r.n : Int)) ∧ cs[lo + i * 4 + 2]? = some (.bool r.o) ∧ cs[lo + i * 4 + 3]? = some (.bool r.cl))
theorem Rns.cells {w : World} {lb lo lc : Nat} {l : List Rn} (h : Rns w lb lo lc l) {i : Nat} {r : Rn} (hi : l[i]? = some r) :
    w.cell? ⟨lb, lo + i * 4, none⟩ = some (.int .u8 (r.c.toNat : Int)) ∧ w.cell? ⟨lb, lo + i * 4 + 1, none⟩ = some (.int .i64 (r.n : Int)) ∧ w.cell? ⟨lb, lo + i * 4 + 2, none⟩ = some (.bool r.o) ∧ w.cell? ⟨lb, lo + i * 4 + 3, none⟩ = some (.bool r.cl) := by
  obtain ⟨_, cs, fz, h1, h2⟩ := h.ex
  rw [Lib.cell_of_heap h1, Lib.cell_of_heap h1, Lib.cell_of_heap h1, Lib.cell_of_heap h1]
  exact h2 i r hi
theorem Rns.same {w w' : World} {lb lo lc : Nat} {l : List Rn} (h : Rns w lb lo lc l) (k : w'.heap[lb]? = w.heap[lb]?) : Rns w' lb lo lc l := by
  obtain ⟨hc, cs, fz, h1, h2⟩ := h.ex; exact ⟨⟨hc, cs, fz, k.trans h1, h2⟩⟩
theorem Rns.lt {w : World} {lb lo lc : Nat} {l : List Rn} (h : Rns w lb lo lc l) : lb < w.heap.size := by obtain ⟨_, cs, fz, h1, _⟩ := h.ex; exact heap_lt h1
theorem Rns.ne {w : World} {lb lo lc eb : Nat} {l : List Rn} {E : List Ee} (h : Rns w lb lo lc l) (k : Ent w eb E) : lb ≠ eb := fun e => by
  obtain ⟨_, cs, fz, h1, _⟩ := h.ex
  obtain ⟨cur, h2, _⟩ := k.ex
  rw [e, h2] at h1; cases h1
theorem Rns.on {w w' : World} {lb lo lc eb : Nat} {l : List Rn} {E : List Ee} (h : Rns w lb lo lc l) (hE : Ent w eb E) (k : On eb w w') : Rns w' lb lo lc l :=
  h.same (k.out.block lb h.lt (fun e => h.ne hE (Option.some.inj e)))
theorem Rns.bl {w w' : World} {lb lo lc : Nat} {l : List Rn} (h : Rns w lb lo lc l) (k : Bl w w') : Rns w' lb lo lc l := h.same (k.block h.lt)
theorem Ent.bl {w w' : World} {eb : Nat} {E : List Ee} (h : Ent w eb E) (k : Bl w w') : Ent w' eb E := h.same (k.block h.lt)
theorem Mx.bl {w w' : World} {mb eb qb n ec : Nat} {lv : Value} (h : Mx w mb eb qb n ec lv) (k : Bl w w') : Mx w' mb eb qb n ec lv := h.same (k.block (heap_lt h.out))
/-- A key as a value. -/
def keyV (x : UInt8 × Bool × Int) : Value := .agg #[.int .u8 (x.1.toNat : Int), .bool x.2.1, .int .i64 x.2.2]
def keyE (l : List Rn) (E : List Ee) (k : Nat) : UInt8 × Bool × Int :=
  let r := l.getD k default
  if r.c == 126 then (r.c, false, (E.getD k default).l) else (r.c, r.o, (r.n : Int) % 3)
theorem getD_rn {l : List Rn} {i : Nat} {r : Rn} (h : l[i]? = some r) : l.getD i default = r := by rw [List.getD_eq_getElem?_getD, h]; rfl
theorem eq_126 (c : UInt8) : ((c.toNat : Int) == 126) = (c == 126) := by
  rw [Bool.eq_iff_iff]
  simp
  constructor
  · intro h; apply UInt8.toNat_inj.1; have : c.toNat = 126 := by omega
    rw [this]; rfl
  · rintro rfl; rfl

set_option maxRecDepth 100000 in
set_option maxHeartbeats 4000000 in
theorem of_any (w : World) (mb eb qb n ec lb lo lc : Nat) (l : List Rn) (E : List Ee) (k : Nat) (hm : Mx w mb eb qb n ec (.slice (some ⟨lb, lo, none⟩) n lc)) (hE : Ent w eb E) (hR : Rns w lb lo lc l) (hl : l.length = n) (hn : E.length = n) (hk : k < n) (hbig : ∀ r ∈ l, r.n ≤ 1000000) :
    Calls Tryz.prog 134 #[.pointer (some ⟨mb, 0, none⟩), .int .i64 (k : Int)] w fun e w' => e = .returned (keyV (keyE l E k)) ∧ Bl w w' := by
  obtain ⟨c0, c1, c2⟩ := hm.cells
  obtain ⟨r, hr⟩ : ∃ r, l[k]? = some r := ⟨_, List.getElem?_eq_getElem (by omega)⟩
  obtain ⟨x, hx⟩ : ∃ x, E[k]? = some x := ⟨_, List.getElem?_eq_getElem (by omega)⟩
  obtain ⟨r0, r1, r2, r3⟩ := hR.cells hr
  obtain ⟨d0, _, _⟩ := hE.cells hx
  have hrn : (r.n : Int) ≤ 1000000 := by have := hbig r (List.mem_of_getElem? hr); omega
  have hr0 : (0 : Int) ≤ (r.n : Int) := Int.natCast_nonneg _
  have i0 : (0 : Int) ≤ (k : Int) := Int.natCast_nonneg _
  have i1 : (k : Int) < (n : Int) := by omega
  have hKE : keyE l E k = if ((r.c.toNat : Int) == 126) then (r.c, false, x.l) else (r.c, r.o, (r.n : Int) % 3) := by
    unfold keyE; rw [getD_rn hr, getD_of hx, eq_126]
  have hmb : mb < w.heap.size := heap_lt hm.out
  have hlb : lb < w.heap.size := hR.lt
  have heb : eb < w.heap.size := hE.lt
  have h126 : ((r.c.toNat : Int) == 126) = true ∨ ((r.c.toNat : Int) == 126) = false := by cases ((r.c.toNat : Int) == 126) <;> simp
  have HK := Lib.hid hKE
  clear hKE hr hx
  rcases h126 with h126 | h126
  · have HV := Lib.hid (show keyV (keyE l E k) = .agg #[.int .u8 (r.c.toNat : Int), .bool false, .int .i64 x.l] by rw [HK.out, h126]; rfl)
    go_enter Tryz.func134, Tryz.ntmps134
    go_wp2_with fail
    have b5 := ((Bl.refl w).alloc (.cells #[.int .u8 0, .bool false, .int .i64 0] 182)).alloc (.cells #[.int .u8 (r.c.toNat : Int), .int .i64 (r.n : Int), .bool r.o, .bool r.cl] 67)
    have x5 : ((w.alloc (.cells #[.int .u8 0, .bool false, .int .i64 0] 182)).alloc (.cells #[.int .u8 (r.c.toNat : Int), .int .i64 (r.n : Int), .bool r.o, .bool r.cl] 67)).cell? ⟨w.heap.size + 1, 0, none⟩ = some (.int .u8 (r.c.toNat : Int)) := by
      rw [Lib.cell_of_heap (j := 0) (by have := heap_alloc_new (w.alloc (.cells #[.int .u8 0, .bool false, .int .i64 0] 182)) (.cells #[.int .u8 (r.c.toNat : Int), .int .i64 (r.n : Int), .bool r.o, .bool r.cl] 67); rwa [World.size_alloc] at this)]; rfl
    have hHeld : (fun w' : World => w'.cell? ⟨w.heap.size + 1, 0, none⟩ = some (.int .u8 (r.c.toNat : Int)) ∧ w'.cell? ⟨mb, 1, none⟩ = some (.slice (some ⟨eb, 0, none⟩) n ec) ∧ w'.cell? ⟨eb, k * 3, none⟩ = some (.int .i64 x.l)) ((w.alloc (.cells #[.int .u8 0, .bool false, .int .i64 0] 182)).alloc (.cells #[.int .u8 (r.c.toNat : Int), .int .i64 (r.n : Int), .bool r.o, .bool r.cl] 67)).drew := ⟨x5, b5.cell c1, b5.cell d0⟩
    refine wp_region_n (fun w' : World => w'.cell? ⟨w.heap.size + 1, 0, none⟩ = some (.int .u8 (r.c.toNat : Int)) ∧ w'.cell? ⟨mb, 1, none⟩ = some (.slice (some ⟨eb, 0, none⟩) n ec) ∧ w'.cell? ⟨eb, k * 3, none⟩ = some (.int .i64 x.l)) [0, 1, 2, 3, 4, 5, 6, 7, 8, 9, 10] (by kernel_rfl) ?_
    refine wpAnyN_take (i := 0) (v := ?rv1) rfl (by kernel_rfl) (by kernel_rfl) (by kernel_rfl) (by kernel_rfl) (by kernel_rfl) (fun _ _ _ h => h) (Or.inl ⟨by rfl, ?rh1⟩) hHeld ?_
    case rh1 => (intro w hSw; (try dsimp only at hSw); go_simp; try with_reducible rfl)
    refine wpAnyN_take (i := 1) (v := ?rv2) rfl (by kernel_rfl) (by kernel_rfl) (by kernel_rfl) (by kernel_rfl) (by kernel_rfl) (fun _ _ _ h => h) (Or.inl ⟨by rfl, ?rh2⟩) hHeld ?_
    case rh2 => (intro w hSw; (try dsimp only at hSw); go_simp; try with_reducible rfl)
    refine wpAnyN_take (i := 2) (v := ?rv3) rfl (by kernel_rfl) (by kernel_rfl) (by kernel_rfl) (by kernel_rfl) (by kernel_rfl) (fun _ _ _ h => h) (Or.inl ⟨by rfl, ?rh3⟩) hHeld ?_
    case rh3 => (intro w hSw; (try dsimp only at hSw); go_simp; try with_reducible rfl)
    refine wpAnyN_take (i := 3) (v := ?rv4) rfl (by kernel_rfl) (by kernel_rfl) (by kernel_rfl) (by kernel_rfl) (by kernel_rfl) (fun _ _ _ h => h) (Or.inl ⟨by rfl, ?rh4⟩) hHeld ?_
    case rh4 => (intro w hSw; (try dsimp only at hSw); go_simp; try with_reducible rfl)
    refine wpAnyN_take (i := 4) (v := ?rv5) rfl (by kernel_rfl) (by kernel_rfl) (by kernel_rfl) (by kernel_rfl) (by kernel_rfl) (fun _ _ _ h => h) (Or.inl ⟨by rfl, ?rh5⟩) hHeld ?_
    case rh5 => (intro w hSw; (try dsimp only at hSw); go_simp; try with_reducible rfl)
    refine wpAnyN_take (i := 5) (v := ?rv6) rfl (by kernel_rfl) (by kernel_rfl) (by kernel_rfl) (by kernel_rfl) (by kernel_rfl) (fun _ _ _ h => h) (Or.inl ⟨by rfl, ?rh6⟩) hHeld ?_
    case rh6 => (intro w hSw; (try dsimp only at hSw); go_simp; try with_reducible rfl)
    refine wpAnyN_take (i := 6) (v := ?rv7) rfl (by kernel_rfl) (by kernel_rfl) (by kernel_rfl) (by kernel_rfl) (by kernel_rfl) (fun _ _ _ h => h) (Or.inl ⟨by rfl, ?rh7⟩) hHeld ?_
    case rh7 => (intro w hSw; (try dsimp only at hSw); go_simp; try with_reducible rfl)
    refine wpAnyN_take (i := 7) (v := ?rv8) rfl (by kernel_rfl) (by kernel_rfl) (by kernel_rfl) (by kernel_rfl) (by kernel_rfl) (fun _ _ _ h => h) (Or.inl ⟨by rfl, ?rh8⟩) hHeld ?_
    case rh8 => (intro w hSw; (try dsimp only at hSw); go_simp; try with_reducible rfl)
    refine wpAnyN_take (i := 8) (v := ?rv9) rfl (by kernel_rfl) (by kernel_rfl) (by kernel_rfl) (by kernel_rfl) (by kernel_rfl) (fun _ _ _ h => h) (Or.inl ⟨by rfl, ?rh9⟩) hHeld ?_
    case rh9 => (intro w hSw; (try dsimp only at hSw); go_simp; try with_reducible rfl)
    refine wpAnyN_take (i := 9) (v := ?rv10) rfl (by kernel_rfl) (by kernel_rfl) (by kernel_rfl) (by kernel_rfl) (by kernel_rfl) (fun _ _ _ h => h) (Or.inl ⟨by rfl, ?rh10⟩) hHeld ?_
    case rh10 => (intro w hSw; (try dsimp only at hSw); go_simp; try with_reducible rfl)
    refine wpAnyN_take (i := 10) (v := ?rv11) rfl (by kernel_rfl) (by kernel_rfl) (by kernel_rfl) (by kernel_rfl) (by kernel_rfl) (fun _ _ _ h => h) (Or.inl ⟨by rfl, ?rh11⟩) hHeld ?_
    case rh11 => (intro w hSw; (try dsimp only at hSw); go_simp; try with_reducible rfl)
    refine wpAnyN_ready (rs := [11]) (by kernel_rfl) (by simp) ?_
    refine AllN.cons rfl (fun K rK12 => ?_) ?_
    · go_simp
      refine rK12.out _ _ (not_early (by kernel_rfl)) ?_
      clear rK12 K
      refine wpAnyN_done (by kernel_rfl) ?_ _
      go_wp2
      exact bodyPost_ret (v := .agg #[.int .u8 (r.c.toNat : Int), .bool false, .int .i64 x.l]) (by simp [results, Tryz.results134, go_sem]) rfl ⟨by rw [HV.out], (((Bl.refl w).alloc _).alloc _).drew⟩
    exact AllN.nil
  · have HV := Lib.hid (show keyV (keyE l E k) = .agg #[.int .u8 (r.c.toNat : Int), .bool r.o, .int .i64 ((r.n : Int) % 3)] by rw [HK.out, h126]; rfl)
    go_enter Tryz.func134, Tryz.ntmps134
    go_wp2_with fail
    exact bodyPost_ret (v := .agg #[.int .u8 (r.c.toNat : Int), .bool r.o, .int .i64 ((r.n : Int) % 3)]) (by simp [results, Tryz.results134, go_sem]) rfl ⟨by rw [HV.out], ((Bl.refl w).alloc _).alloc _⟩

def sizeE (l : List Rn) (E : List Ee) (j k : Nat) : Int :=
  if (l.getD k default).c == 126 then (E.getD k default).l else min (min (E.getD k default).l (E.getD j default).l) 2
set_option maxRecDepth 100000 in
set_option maxHeartbeats 4000000 in
theorem size_any (w : World) (mb eb qb n ec lb lo lc : Nat) (l : List Rn) (E : List Ee) (j k : Nat) (hm : Mx w mb eb qb n ec (.slice (some ⟨lb, lo, none⟩) n lc)) (hE : Ent w eb E) (hR : Rns w lb lo lc l) (hl : l.length = n) (hn : E.length = n) (hk : k < n) (hj : j < n) :
    Calls Tryz.prog 201 #[.pointer (some ⟨mb, 0, none⟩), .int .i64 (j : Int), .int .i64 (k : Int)] w fun e w' => e = .returned (.int .i64 (sizeE l E j k)) ∧ Bl w w' := by
  obtain ⟨c0, c1, c2⟩ := hm.cells
  obtain ⟨r, hr⟩ : ∃ r, l[k]? = some r := ⟨_, List.getElem?_eq_getElem (by omega)⟩
  obtain ⟨x, hx⟩ : ∃ x, E[k]? = some x := ⟨_, List.getElem?_eq_getElem (by omega)⟩
  obtain ⟨y, hy⟩ : ∃ y, E[j]? = some y := ⟨_, List.getElem?_eq_getElem (by omega)⟩
  obtain ⟨r0, r1, r2, r3⟩ := hR.cells hr
  obtain ⟨d0, _, _⟩ := hE.cells hx
  obtain ⟨e0, _, _⟩ := hE.cells hy
  have i0 : (0 : Int) ≤ (k : Int) := Int.natCast_nonneg _
  have i1 : (k : Int) < (n : Int) := by omega
  have i2 : (0 : Int) ≤ (j : Int) := Int.natCast_nonneg _
  have i3 : (j : Int) < (n : Int) := by omega
  have HK := Lib.hid (show sizeE l E j k = if ((r.c.toNat : Int) == 126) then x.l else min (min x.l y.l) 2 by unfold sizeE; rw [getD_rn hr, getD_of hx, getD_of hy, eq_126])
  clear hr hx hy
  have hd : ((r.c.toNat : Int) != 126) = !((r.c.toNat : Int) == 126) := rfl
  cases h126 : ((r.c.toNat : Int) == 126) with
  | true =>
    rw [h126] at hd
    have hd' : ((r.c.toNat : Int) != 126) = false := hd
    clear hd
    have HV := Lib.hid (show sizeE l E j k = x.l by rw [HK.out, h126]; rfl)
    go_enter Tryz.func201, Tryz.ntmps201
    go_wp2
    go_ret
    exact ⟨ret_int HV.out.symm, Bl.refl w⟩
  | false =>
    rw [h126] at hd
    have hd' : ((r.c.toNat : Int) != 126) = true := hd
    clear hd
    have HV := Lib.hid (show sizeE l E j k = min (min x.l y.l) 2 by rw [HK.out, h126]; rfl)
    go_enter Tryz.func201, Tryz.ntmps201
    go_wp2
    all_goals
      go_ret
      exact ⟨ret_int (by rw [HV.out]; omega), Bl.refl w⟩

end Go.Proofs.YtjocbifjmchbcaaGreatDoor
/- The matcher's map, and its opener. -/
namespace Go.Proofs.YtjocbifjmchbcaaGreatDoor
open Go.RowKit Go.Maps

theorem keyLaid : laidOutB Tryz.prog = true := by kernel_rfl
theorem keyRow : 182 < Tryz.prog.types.size := of_decide_eq_true (by kernel_rfl)
theorem keyWide : (match Tryz.prog.underlying 182 with | some (.array _ _) | some (.struct _) => true | _ => false) = true := by rw [Tryz.underlying182]
set_option maxRecDepth 100000 in
theorem keyTy : Tryz.prog.keyTypeAt 2 182 = true := by kernel_rfl
set_option maxRecDepth 100000 in
theorem keyLaw0 : WideMaps.KeyLaw Tryz.prog 182 := deep_law_laid (P := Tryz.prog) (k := 182) keyLaid (m := 2) (by omega) keyRow keyTy keyWide
theorem keyLaw : Keyed Tryz.prog 182 := Keyed.of_law keyLaw0
abbrev Kx := UInt8 × Bool × Int
theorem keyV_inj {x y : Kx} (h : keyV x = keyV y) : x = y := by
  obtain ⟨a, b, c⟩ := x
  obtain ⟨a', b', c'⟩ := y
  unfold keyV at h
  simp at h
  obtain ⟨h1, h2, h3⟩ := h
  have : a = a' := UInt8.toNat_inj.1 (by omega)
  rw [this, h2, h3]
/-- Up to where nothing is to be found, in memory. -/
structure Bot (w : World) (qb cnt : Nat) (bot : List (Kx × Int)) : Prop where
  ex : ∃ D : DataW Unit, w.ownsMap Tryz.prog 182 (plainElem Tryz.prog 3) qb cnt D ∧ IsMap D ∧ ∀ (x : Kx) (kl : Lit), keyOf Tryz.prog 182 (keyV x) = some kl → has D kl = (bot.lookup x).isSome ∧ ∀ y, bot.lookup x = some y → D.atKey kl (.lit (.int .i64 0)) = .lit (.int .i64 y)
  lo : ∀ x ∈ bot, -1 ≤ x.2
theorem look_in {bot : List (Kx × Int)} {x : Kx} {y : Int} (h : bot.lookup x = some y) : ∃ z ∈ bot, z.2 = y := by
  induction bot with
  | nil => cases h
  | cons a t ih =>
    obtain ⟨a1, a2⟩ := a
    rw [List.lookup_cons] at h
    split at h
    · cases h; exact ⟨_, List.mem_cons_self, rfl⟩
    · obtain ⟨z, hz, e⟩ := ih h; exact ⟨z, List.mem_cons_of_mem _ hz, e⟩
theorem Bot.same {w w' : World} {qb cnt : Nat} {bot : List (Kx × Int)} {row : Option Nat} (h : Bot w qb cnt bot) (k : w.grownBy w' row) (hn : some qb ≠ row) : Bot w' qb cnt bot := by
  obtain ⟨D, h1, h2, h3⟩ := h.ex
  exact ⟨⟨D, h1.kept k hn, h2, h3⟩, h.lo⟩
theorem Bot.bl {w w' : World} {qb cnt : Nat} {bot : List (Kx × Int)} (h : Bot w qb cnt bot) (k : Bl w w') : Bot w' qb cnt bot := h.same (grownBy_of_bl' k) (by simp)
  where grownBy_of_bl' {w w' : World} (h : Bl w w') : w.grownBy w' none := ⟨h.out.os, h.out.tape, h.out.output, h.size, fun _ hi _ => h.block hi⟩
theorem Bot.isMap {w : World} {qb cnt : Nat} {bot : List (Kx × Int)} (h : Bot w qb cnt bot) : ∃ es c, w.heap[qb]? = some (.map es c) := by
  obtain ⟨D, ⟨es, c, hb, _⟩, _⟩ := h.ex
  exact ⟨es, c, hb⟩
theorem Bot.new (w : World) : Bot (w.alloc (.map #[] 0)) w.heap.size 0 [] :=
  ⟨⟨.map [], World.ownsMap_made _ _ _ _, isMap_empty, fun x kl _ => ⟨rfl, fun y h => by cases h⟩⟩, fun x h => by cases h⟩
/-- The look-up. -/
theorem Bot.look {w : World} {qb cnt : Nat} {bot : List (Kx × Int)} (h : Bot w qb cnt bot) (x : Kx) (hk : ∃ kl, keyOf Tryz.prog 182 (keyV x) = some kl) :
    ∃ c : Int, (Instr.lookup 174 (.map (some qb)) (keyV x) true).run Tryz.prog w = .ok (.tuple #[.int .i64 c, .bool (bot.lookup x).isSome]) w ∧ (∀ y, bot.lookup x = some y → c = y) := by
  obtain ⟨D, h1, h2, h3⟩ := h.ex
  obtain ⟨kl, hkl⟩ := hk
  obtain ⟨v, ps, hrun, hv⟩ := h1.look_ok keyLaw Tryz.underlying174 (Tryz.zeroValue3 w) (plainElem_int Tryz.underlying3 (by decide)) hkl
  obtain ⟨c, rfl, hc, _⟩ := plainElem_int_inv Tryz.underlying3 hv
  obtain ⟨a1, a2⟩ := h3 x kl hkl
  refine ⟨c, by rw [hrun, a1], fun y hy => ?_⟩
  have := a2 y hy
  have e : D.atKey kl (.lit (.int .i64 0)) = .lit (.int .i64 c) := congrArg Prod.fst hc
  rw [e] at this
  cases this
  rfl

theorem keySize : ∃ n, Tryz.prog.types.size = n + 2 := by
  have h := keyRow
  have h2 : (2 : Nat) ≤ 182 := by decide
  exact ⟨Tryz.prog.types.size - 2, by omega⟩
theorem keyCells : Tryz.prog.cellsOf 182 = 3 := by kernel_rfl
theorem cells8 : Tryz.prog.cellsOf 5 = 1 := by kernel_rfl
theorem cellsB : Tryz.prog.cellsOf 4 = 1 := by kernel_rfl
theorem cellsI : Tryz.prog.cellsOf 3 = 1 := by kernel_rfl
theorem keyIs : Tryz.prog.keyType 182 = true := by kernel_rfl
theorem keyOf_ok (x : Kx) (h : -9223372036854775808 ≤ x.2.2 ∧ x.2.2 ≤ 9223372036854775807) : ∃ kl, keyOf Tryz.prog 182 (keyV x) = some kl := by
  obtain ⟨n, hn⟩ := keySize
  have hw8 : (Lit.int .u8 (x.1.toNat : Int)).wf = true := by have := x.1.toNat_lt; simp [Lit.wf, IntKind.min, IntKind.max, IntKind.signed, IntKind.bits]; omega
  have hwi : (Lit.int .i64 x.2.2).wf = true := by simp [Lit.wf, IntKind.min, IntKind.max, IntKind.signed, IntKind.bits]; omega
  unfold keyOf keyV
  rw [Tryz.underlying182]
  simp only [keyIs, Value.formed, Tryz.underlying182, keyCells, Value.cells, hn]
  unfold Program.keyLits
  simp only [Tryz.underlying182, keyCells]
  unfold Program.keyLits
  simp [Tryz.underlying5, Tryz.underlying4, Tryz.underlying3, cells8, cellsB, cellsI, hw8, hwi]
theorem Bot.put {w w' : World} {qb cnt : Nat} {bot : List (Kx × Int)} (h : Bot w qb cnt bot) (x : Kx) (v : Int) (hv : -1 ≤ v ∧ v ≤ 1000000) (hx : -9223372036854775808 ≤ x.2.2 ∧ x.2.2 ≤ 9223372036854775807) (hcnt : cnt ≤ 1000000) :
    ∃ w', (Instr.mapUpdate 174 (.map (some qb)) (keyV x) (.int .i64 v)).run Tryz.prog w = .ok () w' ∧ Bot w' qb (cnt + 1) ((x, v) :: bot) ∧ w.grownBy w' (some qb) := by
  obtain ⟨D, h1, h2, h3⟩ := h.ex
  obtain ⟨kl, hkl⟩ := keyOf_ok x hx
  obtain ⟨w', hrun, hown, hg⟩ := h1.update keyLaw Tryz.underlying174 (by unfold maxLen; omega) hkl (plainElem_int Tryz.underlying3 (show (Lit.int .i64 v).wf = true by simp [Lit.wf, IntKind.min, IntKind.max, IntKind.signed, IntKind.bits]; omega))
  refine ⟨w', hrun, ⟨⟨D.put kl (.lit (.int .i64 v)), hown, h2.put _ _, fun y l hy => ?_⟩, fun z hz => by
    rcases List.mem_cons.1 hz with rfl | hz
    · exact hv.1
    · exact h.lo z hz⟩, hg⟩
  obtain ⟨a1, a2⟩ := h3 y l hy
  rw [List.lookup_cons]
  by_cases e : y = x
  · subst e
    rw [hkl] at hy
    cases hy
    have hb : (y == y) = true := by simp
    rw [hb]
    exact ⟨has_put_same h2 (keyLaw.key hkl) _, fun z hz => by cases hz; exact atKey_put_same h2 (keyLaw.key hkl) _ _⟩
  · have hb : (y == x) = false := by simpa using e
    have hne : l ≠ kl := fun hl => by
      subst hl
      exact e (keyV_inj (keyLaw.inj hy hkl))
    rw [hb]
    exact ⟨by rw [has_put_other hne]; exact a1, fun z hz => by rw [atKey_put_other hne]; exact a2 z hz⟩
end Go.Proofs.YtjocbifjmchbcaaGreatDoor
/- The matcher's opener. -/
namespace Go.Proofs.YtjocbifjmchbcaaGreatDoor
open Go.RowKit Go.Maps

section
variable {P : Program} {ops : Array Oper} {Q : Exit → Act → World → Prop}
theorem step_lookup {o : Oper} {a : Act} {w : World} {K : Act → World → Prop} {E : Prop} (hg : o.guard = none) (m x : Operand) (t : TypeId) (c : Bool) (hop : o.op = Op.lookup t m x c) {qb : Nat} {key r : Value} (hm : a.eval m = .map (some qb)) (hx : a.eval x = key)
    (hrun : (Instr.lookup t (.map (some qb)) key c).run P w = .ok r w) (hK : K (a.put o.dst r) w) : if Region.wanted o (yielded ops a.tmps) = true then Oper.wp P o a w K Q else E := by
  have hw : Region.wanted o (yielded ops a.tmps) = true := by simp [Region.wanted, hg]
  rw [if_pos hw]
  unfold Oper.wp
  simp [execOp, hop, hm, hx, hrun, Result.andThen]
  exact hK
theorem step_update {o : Oper} {a : Act} {w w' : World} {K : Act → World → Prop} {E : Prop} (hg : o.guard = none) (m x v : Operand) (t : TypeId) (hop : o.op = Op.mapUpdate t m x v) {qb : Nat} {key val : Value} (hm : a.eval m = .map (some qb)) (hx : a.eval x = key) (hv : a.eval v = val)
    (hrun : (Instr.mapUpdate t (.map (some qb)) key val).run P w = .ok () w') (hK : K (a.put o.dst undef) w') : if Region.wanted o (yielded ops a.tmps) = true then Oper.wp P o a w K Q else E := by
  have hw : Region.wanted o (yielded ops a.tmps) = true := by simp [Region.wanted, hg]
  rw [if_pos hw]
  unfold Oper.wp
  simp [execOp, hop, hm, hx, hv, hrun, Result.andThen]
  exact hK
end
def fitsE (l : List Rn) (E : List Ee) (j k : Nat) : Bool :=
  let a := l.getD j default; let b := l.getD k default
  a.c == b.c && a.o && decide (1 ≤ (E.getD j default).l) && (if b.c == 126 then (E.getD j default).l == (E.getD k default).l else fitsR a b)
/-- From place j on, over those ahead: the first that fits; -1: none. -/
def seekE (l : List Rn) (E : List Ee) (k : Nat) (low : Int) : Nat → Int → Int
  | 0, _ => -1
  | f + 1, j => if j ≤ low then -1 else if fitsE l E j.toNat k then j else seekE l E k low f (E.getD j.toNat default).p
def lowE (l : List Rn) (E : List Ee) (bot : List (Kx × Int)) (k : Nat) : Int := (bot.lookup (keyE l E k)).getD (-1)
theorem byte_ne (a b : UInt8) : ((a.toNat : Int) != (b.toNat : Int)) = !(a == b) := by
  rw [Bool.eq_iff_iff]
  simp
  constructor
  · intro h e; apply h; rw [e]
  · intro h e; apply h; apply UInt8.toNat_inj.1; omega

theorem two_new (w : World) (o p : Obj) : ((w.alloc o).alloc p).drew.heap[w.heap.size]? = some o ∧ ((w.alloc o).alloc p).drew.heap[w.heap.size + 1]? = some p := by
  refine ⟨?_, ?_⟩
  · show ((w.alloc o).alloc p).heap[w.heap.size]? = _
    rw [((Bl.refl _).alloc p).block (by simp)]; exact heap_alloc_new w o
  · have := heap_alloc_new (w.alloc o) p
    rwa [World.size_alloc] at this
set_option maxRecDepth 100000 in
set_option maxHeartbeats 8000000 in
theorem opener_any (w : World) (mb eb qb n ec lb lo lc cnt : Nat) (l : List Rn) (E : List Ee) (bot : List (Kx × Int)) (k : Nat) (hm : Mx w mb eb qb n ec (.slice (some ⟨lb, lo, none⟩) n lc)) (hE : Ent w eb E) (hR : Rns w lb lo lc l) (hQ : Bot w qb cnt bot) (hl : l.length = n) (hn : E.length = n) (hk : k < n) (hbig : ∀ r ∈ l, r.n ≤ 1000000)
    (hp : ∀ (i : Nat) (e : Ee), E[i]? = some e → -1 ≤ e.p ∧ e.p < i) (hL : ∀ (i : Nat) (e : Ee), E[i]? = some e → 0 ≤ e.l ∧ e.l ≤ 1000000) :
    Calls Tryz.prog 132 #[.pointer (some ⟨mb, 0, none⟩), .int .i64 (k : Int)] w fun e w' => e = .returned (.int .i64 (seekE l E k (lowE l E bot k) k (E.getD k default).p)) ∧ Bl w w' := by
  obtain ⟨c0, c1, c2⟩ := hm.cells
  obtain ⟨b, hb⟩ : ∃ r, l[k]? = some r := ⟨_, List.getElem?_eq_getElem (by omega)⟩
  obtain ⟨x, hx⟩ : ∃ x, E[k]? = some x := ⟨_, List.getElem?_eq_getElem (by omega)⟩
  have hkv : -9223372036854775808 ≤ (keyE l E k).2.2 ∧ (keyE l E k).2.2 ≤ 9223372036854775807 := by
    have h1 := hL k x hx
    have h2 := hbig b (List.mem_of_getElem? hb)
    unfold keyE; rw [getD_rn hb, getD_of hx]; dsimp only
    split <;> dsimp only <;> omega
  have hOF := of_any w.drew mb eb qb n ec lb lo lc l E k (hm.bl (Bl.refl w).drew) (hE.bl (Bl.refl w).drew) (hR.bl (Bl.refl w).drew) hl hn hk hbig
  obtain ⟨low, hlowE⟩ : ∃ low, lowE l E bot k = low := ⟨_, rfl⟩
  have hlo1 : -1 ≤ low := by
    rw [← hlowE]; unfold lowE
    cases h : bot.lookup (keyE l E k) with
    | none => simp
    | some y => obtain ⟨z, hz, e⟩ := look_in h; rw [← e]; exact hQ.lo z hz
  have i0 : (0 : Int) ≤ (k : Int) := Int.natCast_nonneg _
  have i1 : (k : Int) < (n : Int) := by omega
  have HLK := fun W (h : Bl w W) => (hQ.bl h).look (keyE l E k) (keyOf_ok _ hkv)
  obtain ⟨kv, hkve⟩ : ∃ kv, keyV (keyE l E k) = kv := ⟨_, rfl⟩
  obtain ⟨kn, hkn⟩ : ∃ kn, (bot.lookup (keyE l E k)).isSome = kn := ⟨_, rfl⟩
  have hlow2 : ∀ c : Int, (∀ y, bot.lookup (keyE l E k) = some y → c = y) → (kn = true → c = low) ∧ (kn = false → low = -1) := by
    intro c hc
    rw [← hlowE, ← hkn]; unfold lowE
    cases h : bot.lookup (keyE l E k) with
    | none => exact ⟨fun h => by (cases h), fun _ => rfl⟩
    | some y => exact ⟨fun _ => (hc y h), fun h => by cases h⟩
  rw [hkve] at hOF
  rw [hkve, hkn] at HLK
  have HLK := Lib.hid HLK
  have hlow2 := Lib.hid hlow2
  have hT := Lib.hid hlowE
  rw [hlowE]
  clear hlowE hkve hkv hkn
  obtain ⟨T, hTe⟩ : ∃ T, seekE l E k low k (E.getD k default).p = T := ⟨_, rfl⟩
  rw [hTe]
  have HT := Lib.hid hTe
  clear hTe
  obtain ⟨hpx1, hpx2⟩ := hp k x hx
  have hxD := getD_of hx
  rw [hxD] at HT
  clear hxD
  go_enter Tryz.func132, Tryz.ntmps132
  go_upto_region 1 with fail
  go_cut [5, 6] (fun s5 s6 wx => ∃ c : Int, s5 = .int .i64 c ∧ s6 = .bool kn ∧ Bl w wx ∧ ((kn = true → c = low) ∧ (kn = false → low = -1)))
  case first =>
    have hHeld : (fun w' : World => w'.cell? ⟨mb, 2, none⟩ = some (.map (some qb))) w.drew := c2
    refine wp_region_n (fun w' : World => w'.cell? ⟨mb, 2, none⟩ = some (.map (some qb))) [0, 1, 2, 3, 4, 5] (by kernel_rfl) ?_
    refine wpAnyN_take (i := 0) (v := ?rv1) rfl (by kernel_rfl) (by kernel_rfl) (by kernel_rfl) (by kernel_rfl) (by kernel_rfl) (fun _ _ _ h => h) (Or.inl ⟨by rfl, ?rh1⟩) hHeld ?_
    case rh1 => (intro w hSw; (try dsimp only at hSw); go_simp; try with_reducible rfl)
    refine wpAnyN_take (i := 1) (v := ?rv2) rfl (by kernel_rfl) (by kernel_rfl) (by kernel_rfl) (by kernel_rfl) (by kernel_rfl) (fun _ _ _ h => h) (Or.inl ⟨by rfl, ?rh2⟩) hHeld ?_
    case rh2 => (intro w hSw; (try dsimp only at hSw); go_simp; try with_reducible rfl)
    refine wpAnyN_take (i := 2) (v := ?rv3) rfl (by kernel_rfl) (by kernel_rfl) (by kernel_rfl) (by kernel_rfl) (by kernel_rfl) (fun _ _ _ h => h) (Or.inl ⟨by rfl, ?rh3⟩) hHeld ?_
    case rh3 => (intro w hSw; (try dsimp only at hSw); go_simp; try with_reducible rfl)
    refine wpAnyN_take (i := 3) (v := ?rv4) rfl (by kernel_rfl) (by kernel_rfl) (by kernel_rfl) (by kernel_rfl) (by kernel_rfl) (fun _ _ _ h => h) (Or.inl ⟨by rfl, ?rh4⟩) hHeld ?_
    case rh4 => (intro w hSw; (try dsimp only at hSw); go_simp; try with_reducible rfl)
    refine wpAnyN_take (i := 4) (v := ?rv5) rfl (by kernel_rfl) (by kernel_rfl) (by kernel_rfl) (by kernel_rfl) (by kernel_rfl) (fun _ _ _ h => h) (Or.inl ⟨by rfl, ?rh5⟩) hHeld ?_
    case rh5 => (intro w hSw; (try dsimp only at hSw); go_simp; try with_reducible rfl)
    refine wpAnyN_take (i := 5) (v := ?rv6) rfl (by kernel_rfl) (by kernel_rfl) (by kernel_rfl) (by kernel_rfl) (by kernel_rfl) (fun _ _ _ h => h) (Or.inl ⟨by rfl, ?rh6⟩) hHeld ?_
    case rh6 => (intro w hSw; (try dsimp only at hSw); go_simp; try with_reducible rfl)
    refine wpAnyN_ready (rs := [6]) (by kernel_rfl) (by simp) ?_
    refine AllN.cons rfl (fun K rK7 => ?_) ?_
    · go_simp
      refine hOF.mono ?_
      rintro e w5 ⟨rfl, hb5⟩
      dsimp only
      refine rK7.go _ _ (hb5.cell c2) (fun rS7 => ?_)
      clear rK7 K
      refine wpAnyN_ready (rs := [7]) (by kernel_rfl) (by simp) ?_
      refine AllN.cons rfl (fun K rK8 => ?_) ?_
      · obtain ⟨cl, hlk, hcl⟩ := HLK.out w5 ((Bl.refl w).drew.trans hb5)
        refine step_lookup (by rfl) _ _ _ _ (by rfl) (by rfl) (by rfl) hlk ?_
        clear hlk
        refine rK8.out _ _ (not_early (by kernel_rfl)) ?_
        clear rK8 K
        refine wpAnyN_pass (i := 8) (v := ?rv9) rfl (by kernel_rfl) (by kernel_rfl) (by kernel_rfl) (by kernel_rfl) (fun _ _ _ h => h) (Or.inl ⟨by rfl, ?rh9⟩) ?_
        case rh9 => (intro w; go_simp; try with_reducible rfl)
        refine wpAnyN_pass (i := 9) (v := ?rv10) rfl (by kernel_rfl) (by kernel_rfl) (by kernel_rfl) (by kernel_rfl) (fun _ _ _ h => h) (Or.inl ⟨by rfl, ?rh10⟩) ?_
        case rh10 => (intro w; go_simp; try with_reducible rfl)
        refine wpAnyN_pass (i := 10) (v := ?rv11) rfl (by kernel_rfl) (by kernel_rfl) (by kernel_rfl) (by kernel_rfl) (fun _ _ _ h => h) (Or.inl ⟨by rfl, ?rh11⟩) ?_
        case rh11 => (intro w; go_simp; try with_reducible rfl)
        refine wpAnyN_pass (i := 11) (v := ?rv12) rfl (by kernel_rfl) (by kernel_rfl) (by kernel_rfl) (by kernel_rfl) (fun _ _ _ h => h) (Or.inl ⟨by rfl, ?rh12⟩) ?_
        case rh12 => (intro w; go_simp; try with_reducible rfl)
        refine wpAnyN_pass (i := 12) (v := ?rv13) rfl (by kernel_rfl) (by kernel_rfl) (by kernel_rfl) (by kernel_rfl) (fun _ _ _ h => h) (Or.inl ⟨by rfl, ?rh13⟩) ?_
        case rh13 => (intro w; go_simp; try with_reducible rfl)
        refine wpAnyN_done (by kernel_rfl) ?_ _
        go_wp2_with fail
        go_meet
        exact ⟨cl, rfl, rfl, (Bl.refl w).drew.trans hb5, hlow2.out cl hcl⟩
      exact AllN.nil
    exact AllN.nil
  case rest =>
    obtain ⟨c, rfl, rfl, hbw, hc⟩ := hcut
    go_upto_if 22 with fail
    go_cut [5] (fun s5 wx => s5 = .int .i64 low ∧ Bl w wx)
    case first =>
      cases kn with
      | true =>
        obtain rfl := hc.1 rfl
        go_wp2
        go_meet
        exact ⟨rfl, hbw⟩
      | false =>
        obtain rfl := hc.2 rfl
        go_wp2
        go_meet
        exact ⟨rfl, hbw⟩
    case rest =>
      obtain ⟨rfl, hb2⟩ := hcut
      have m2 := (hm.bl hb2).cells
      obtain ⟨g0, g1, _⟩ := m2
      obtain ⟨_, g4, _⟩ := (hE.bl hb2).cells hx
      go_wp2_with fail
      go_loopw [7] (fun v wr => ∃ (j : Int) (f : Nat), v = .int .i64 j ∧ -1 ≤ j ∧ j < (n : Int) ∧ j < (f : Int) ∧ Bl w wr ∧ Hid (seekE l E k low f j = T)) (fun v _ => (intOf v + 1).toNat)
      case atStart => exact ⟨x.p, k, rfl, hpx1, by omega, hpx2, hb2, HT⟩
      case round =>
        obtain ⟨j, f, rfl, hj1, hj2, hjf, hbr, hrel⟩ := hrel
        by_cases hjl : j ≤ low
        · have hR1 := Lib.hid (show T = -1 by
            rw [← hrel.out]
            cases f with
            | zero => rfl
            | succ f => rw [seekE, if_pos hjl])
          go_wp2
          go_ret
          exact ⟨ret_int (by rw [hR1.out]), hbr⟩
        · obtain ⟨jn, rfl⟩ : ∃ jn : Nat, j = (jn : Int) := ⟨j.toNat, by omega⟩
          obtain ⟨f, rfl⟩ : ∃ f', f = f' + 1 := ⟨f - 1, by omega⟩
          obtain ⟨a, ha⟩ : ∃ r, l[jn]? = some r := ⟨_, List.getElem?_eq_getElem (by omega)⟩
          obtain ⟨y, hy⟩ : ∃ y, E[jn]? = some y := ⟨_, List.getElem?_eq_getElem (by omega)⟩
          have hrel2 := Lib.hid (show (if fitsE l E jn k then (jn : Int) else seekE l E k low f y.p) = T by
            rw [← hrel.out, seekE, if_neg hjl, Int.toNat_natCast, getD_of hy])
          have hfit := Lib.hid (show fitsE l E jn k = (a.c == b.c && a.o && decide (1 ≤ y.l) && (if b.c == 126 then y.l == x.l else fitsR a b)) by unfold fitsE; rw [getD_rn ha, getD_rn hb, getD_of hy, getD_of hx])
          clear hrel
          obtain ⟨g0, g1, _⟩ := (hm.bl hbr).cells
          obtain ⟨e0, e1, e2, e3⟩ := (hR.bl hbr).cells ha
          obtain ⟨q0, q1, q2, q3⟩ := (hR.bl hbr).cells hb
          obtain ⟨y0, y1, _⟩ := (hE.bl hbr).cells hy
          obtain ⟨x0, _, _⟩ := (hE.bl hbr).cells hx
          have hpy := hp jn y hy
          have i2 : (0 : Int) ≤ (jn : Int) := Int.natCast_nonneg _
          go_upto_region 7 with fail
          go_cut [8, 9] (fun s8 s9 wx => ∃ B8 B9 : Nat, s8 = .pointer (some ⟨B8, 0, none⟩) ∧ s9 = .pointer (some ⟨B9, 0, none⟩) ∧ wx.heap[B8]? = some (.cells (rnV a) 67 (0, 0)) ∧ wx.heap[B9]? = some (.cells (rnV b) 67 (0, 0)) ∧ Bl w wx)
          case first =>
            have hS : ∀ W, Bl wr W → (fun w' : World => w'.cell? ⟨mb, 0, none⟩ = some (.slice (some ⟨lb, lo, none⟩) n lc) ∧ (w'.cell? ⟨lb, lo + jn * 4, none⟩ = some (.int .u8 (a.c.toNat : Int)) ∧ w'.cell? ⟨lb, lo + jn * 4 + 1, none⟩ = some (.int .i64 (a.n : Int)) ∧ w'.cell? ⟨lb, lo + jn * 4 + 2, none⟩ = some (.bool a.o) ∧ w'.cell? ⟨lb, lo + jn * 4 + 3, none⟩ = some (.bool a.cl)) ∧ w'.cell? ⟨lb, lo + k * 4, none⟩ = some (.int .u8 (b.c.toNat : Int)) ∧ w'.cell? ⟨lb, lo + k * 4 + 1, none⟩ = some (.int .i64 (b.n : Int)) ∧ w'.cell? ⟨lb, lo + k * 4 + 2, none⟩ = some (.bool b.o) ∧ w'.cell? ⟨lb, lo + k * 4 + 3, none⟩ = some (.bool b.cl)) W := fun W h => ⟨h.cell g0, ⟨h.cell e0, h.cell e1, h.cell e2, h.cell e3⟩, h.cell q0, h.cell q1, h.cell q2, h.cell q3⟩
            have hHeld : (fun w' : World => w'.cell? ⟨mb, 0, none⟩ = some (.slice (some ⟨lb, lo, none⟩) n lc) ∧ (w'.cell? ⟨lb, lo + jn * 4, none⟩ = some (.int .u8 (a.c.toNat : Int)) ∧ w'.cell? ⟨lb, lo + jn * 4 + 1, none⟩ = some (.int .i64 (a.n : Int)) ∧ w'.cell? ⟨lb, lo + jn * 4 + 2, none⟩ = some (.bool a.o) ∧ w'.cell? ⟨lb, lo + jn * 4 + 3, none⟩ = some (.bool a.cl)) ∧ w'.cell? ⟨lb, lo + k * 4, none⟩ = some (.int .u8 (b.c.toNat : Int)) ∧ w'.cell? ⟨lb, lo + k * 4 + 1, none⟩ = some (.int .i64 (b.n : Int)) ∧ w'.cell? ⟨lb, lo + k * 4 + 2, none⟩ = some (.bool b.o) ∧ w'.cell? ⟨lb, lo + k * 4 + 3, none⟩ = some (.bool b.cl)) wr.drew := ⟨g0, ⟨e0, e1, e2, e3⟩, q0, q1, q2, q3⟩
            refine wp_region_n (fun w' : World => w'.cell? ⟨mb, 0, none⟩ = some (.slice (some ⟨lb, lo, none⟩) n lc) ∧ (w'.cell? ⟨lb, lo + jn * 4, none⟩ = some (.int .u8 (a.c.toNat : Int)) ∧ w'.cell? ⟨lb, lo + jn * 4 + 1, none⟩ = some (.int .i64 (a.n : Int)) ∧ w'.cell? ⟨lb, lo + jn * 4 + 2, none⟩ = some (.bool a.o) ∧ w'.cell? ⟨lb, lo + jn * 4 + 3, none⟩ = some (.bool a.cl)) ∧ w'.cell? ⟨lb, lo + k * 4, none⟩ = some (.int .u8 (b.c.toNat : Int)) ∧ w'.cell? ⟨lb, lo + k * 4 + 1, none⟩ = some (.int .i64 (b.n : Int)) ∧ w'.cell? ⟨lb, lo + k * 4 + 2, none⟩ = some (.bool b.o) ∧ w'.cell? ⟨lb, lo + k * 4 + 3, none⟩ = some (.bool b.cl)) [0, 1, 2, 3, 4, 5, 6, 7, 8, 9, 10, 11, 12, 13] (by kernel_rfl) ?_
            refine wpAnyN_take (i := 0) (v := ?sv1) rfl (by kernel_rfl) (by kernel_rfl) (by kernel_rfl) (by kernel_rfl) (by kernel_rfl) (fun _ _ _ h => h) (Or.inl ⟨by rfl, ?sh1⟩) hHeld ?_
            case sh1 => (intro w hSw; (try dsimp only at hSw); go_simp; try with_reducible rfl)
            refine wpAnyN_take (i := 1) (v := ?sv2) rfl (by kernel_rfl) (by kernel_rfl) (by kernel_rfl) (by kernel_rfl) (by kernel_rfl) (fun _ _ _ h => h) (Or.inl ⟨by rfl, ?sh2⟩) hHeld ?_
            case sh2 => (intro w hSw; (try dsimp only at hSw); go_simp; try with_reducible rfl)
            refine wpAnyN_take (i := 2) (v := ?sv3) rfl (by kernel_rfl) (by kernel_rfl) (by kernel_rfl) (by kernel_rfl) (by kernel_rfl) (fun _ _ _ h => h) (Or.inl ⟨by rfl, ?sh3⟩) hHeld ?_
            case sh3 => (intro w hSw; (try dsimp only at hSw); go_simp; try with_reducible rfl)
            refine wpAnyN_take (i := 3) (v := ?sv4) rfl (by kernel_rfl) (by kernel_rfl) (by kernel_rfl) (by kernel_rfl) (by kernel_rfl) (fun _ _ _ h => h) (Or.inl ⟨by rfl, ?sh4⟩) hHeld ?_
            case sh4 => (intro w hSw; (try dsimp only at hSw); go_simp; try with_reducible rfl)
            refine wpAnyN_take (i := 4) (v := ?sv5) rfl (by kernel_rfl) (by kernel_rfl) (by kernel_rfl) (by kernel_rfl) (by kernel_rfl) (fun _ _ _ h => h) (Or.inl ⟨by rfl, ?sh5⟩) hHeld ?_
            case sh5 => (intro w hSw; (try dsimp only at hSw); go_simp; try with_reducible rfl)
            refine wpAnyN_take (i := 5) (v := ?sv6) rfl (by kernel_rfl) (by kernel_rfl) (by kernel_rfl) (by kernel_rfl) (by kernel_rfl) (fun _ _ _ h => h) (Or.inl ⟨by rfl, ?sh6⟩) hHeld ?_
            case sh6 => (intro w hSw; (try dsimp only at hSw); go_simp; try with_reducible rfl)
            refine wpAnyN_take (i := 6) (v := ?sv7) rfl (by kernel_rfl) (by kernel_rfl) (by kernel_rfl) (by kernel_rfl) (by kernel_rfl) (fun _ _ _ h => h) (Or.inl ⟨by rfl, ?sh7⟩) hHeld ?_
            case sh7 => (intro w hSw; (try dsimp only at hSw); go_simp; try with_reducible rfl)
            refine wpAnyN_take (i := 7) (v := ?sv8) rfl (by kernel_rfl) (by kernel_rfl) (by kernel_rfl) (by kernel_rfl) (by kernel_rfl) (fun _ _ _ h => h) (Or.inl ⟨by rfl, ?sh8⟩) hHeld ?_
            case sh8 => (intro w hSw; (try dsimp only at hSw); go_simp; try with_reducible rfl)
            refine wpAnyN_take (i := 8) (v := ?sv9) rfl (by kernel_rfl) (by kernel_rfl) (by kernel_rfl) (by kernel_rfl) (by kernel_rfl) (fun _ _ _ h => h) (Or.inl ⟨by rfl, ?sh9⟩) hHeld ?_
            case sh9 => (intro w hSw; (try dsimp only at hSw); go_simp; try with_reducible rfl)
            refine wpAnyN_take (i := 9) (v := ?sv10) rfl (by kernel_rfl) (by kernel_rfl) (by kernel_rfl) (by kernel_rfl) (by kernel_rfl) (fun _ _ _ h => h) (Or.inl ⟨by rfl, ?sh10⟩) hHeld ?_
            case sh10 => (intro w hSw; (try dsimp only at hSw); go_simp; try with_reducible rfl)
            refine wpAnyN_take (i := 10) (v := ?sv11) rfl (by kernel_rfl) (by kernel_rfl) (by kernel_rfl) (by kernel_rfl) (by kernel_rfl) (fun _ _ _ h => h) (Or.inl ⟨by rfl, ?sh11⟩) hHeld ?_
            case sh11 => (intro w hSw; (try dsimp only at hSw); go_simp; try with_reducible rfl)
            refine wpAnyN_take (i := 11) (v := ?sv12) rfl (by kernel_rfl) (by kernel_rfl) (by kernel_rfl) (by kernel_rfl) (by kernel_rfl) (fun _ _ _ h => h) (Or.inl ⟨by rfl, ?sh12⟩) hHeld ?_
            case sh12 => (intro w hSw; (try dsimp only at hSw); go_simp; try with_reducible rfl)
            refine wpAnyN_take (i := 12) (v := ?sv13) rfl (by kernel_rfl) (by kernel_rfl) (by kernel_rfl) (by kernel_rfl) (by kernel_rfl) (fun _ _ _ h => h) (Or.inl ⟨by rfl, ?sh13⟩) hHeld ?_
            case sh13 => (intro w hSw; (try dsimp only at hSw); go_simp; try with_reducible rfl)
            refine wpAnyN_take (i := 13) (v := ?sv14) rfl (by kernel_rfl) (by kernel_rfl) (by kernel_rfl) (by kernel_rfl) (by kernel_rfl) (fun _ _ _ h => h) (Or.inl ⟨by rfl, ?sh14⟩) hHeld ?_
            case sh14 => (intro w hSw; (try dsimp only at hSw); go_simp; try with_reducible rfl)
            refine wpAnyN_ready (rs := [14, 15]) (by kernel_rfl) (by simp) ?_
            refine AllN.cons rfl (fun K sK15 => ?_) ?_
            · go_simp
              refine sK15.go _ _ (by first | exact hS _ (((Bl.refl wr).alloc _).drew) | exact hS _ ((((Bl.refl wr).alloc _).alloc _).drew)) (fun sS15 => ?_)
              clear sK15 K
              refine wpAnyN_ready (rs := [15]) (by kernel_rfl) (by simp) ?_
              refine AllN.cons rfl (fun K sK16 => ?_) ?_
              · go_simp
                refine sK16.go _ _ (by first | exact hS _ (((Bl.refl wr).alloc _).drew) | exact hS _ ((((Bl.refl wr).alloc _).alloc _).drew)) (fun sS16 => ?_)
                clear sK16 K
                refine wpAnyN_ready (rs := [16]) (by kernel_rfl) (by simp) ?_
                refine AllN.cons rfl (fun K sK17 => ?_) ?_
                · go_simp
                  refine sK17.go _ _ (by first | exact hS _ (((Bl.refl wr).alloc _).drew) | exact hS _ ((((Bl.refl wr).alloc _).alloc _).drew)) (fun sS17 => ?_)
                  clear sK17 K
                  refine wpAnyN_ready (rs := [17]) (by kernel_rfl) (by simp) ?_
                  refine AllN.cons rfl (fun K sK18 => ?_) ?_
                  · go_simp
                    refine sK18.out _ _ (not_early (by kernel_rfl)) ?_
                    clear sK18 K
                    refine wpAnyN_done (by kernel_rfl) ?_ _
                    go_wp2_with fail
                    go_meet
                    first
                      | exact ⟨wr.heap.size, wr.heap.size + 1, rfl, rfl, (two_new wr _ _).1, (two_new wr _ _).2, (hbr.trans ((((Bl.refl wr).alloc _).alloc _).drew))⟩
                      | exact ⟨wr.heap.size + 1, wr.heap.size, rfl, rfl, (two_new wr _ _).2, (two_new wr _ _).1, (hbr.trans ((((Bl.refl wr).alloc _).alloc _).drew))⟩
                  exact AllN.nil
                exact AllN.nil
              exact AllN.nil
            refine AllN.cons rfl (fun K sK19 => ?_) ?_
            · go_simp
              refine sK19.go _ _ (by first | exact hS _ (((Bl.refl wr).alloc _).drew) | exact hS _ ((((Bl.refl wr).alloc _).alloc _).drew)) (fun sS19 => ?_)
              clear sK19 K
              refine wpAnyN_ready (rs := [14]) (by kernel_rfl) (by simp) ?_
              refine AllN.cons rfl (fun K sK20 => ?_) ?_
              · go_simp
                refine sK20.go _ _ (by first | exact hS _ (((Bl.refl wr).alloc _).drew) | exact hS _ ((((Bl.refl wr).alloc _).alloc _).drew)) (fun sS20 => ?_)
                clear sK20 K
                refine wpAnyN_ready (rs := [16]) (by kernel_rfl) (by simp) ?_
                refine AllN.cons rfl (fun K sK21 => ?_) ?_
                · go_simp
                  refine sK21.go _ _ (by first | exact hS _ (((Bl.refl wr).alloc _).drew) | exact hS _ ((((Bl.refl wr).alloc _).alloc _).drew)) (fun sS21 => ?_)
                  clear sK21 K
                  refine wpAnyN_ready (rs := [17]) (by kernel_rfl) (by simp) ?_
                  refine AllN.cons rfl (fun K sK22 => ?_) ?_
                  · go_simp
                    refine sK22.out _ _ (not_early (by kernel_rfl)) ?_
                    clear sK22 K
                    refine wpAnyN_done (by kernel_rfl) ?_ _
                    go_wp2_with fail
                    go_meet
                    first
                      | exact ⟨wr.heap.size, wr.heap.size + 1, rfl, rfl, (two_new wr _ _).1, (two_new wr _ _).2, (hbr.trans ((((Bl.refl wr).alloc _).alloc _).drew))⟩
                      | exact ⟨wr.heap.size + 1, wr.heap.size, rfl, rfl, (two_new wr _ _).2, (two_new wr _ _).1, (hbr.trans ((((Bl.refl wr).alloc _).alloc _).drew))⟩
                  exact AllN.nil
                exact AllN.nil
              exact AllN.nil
            exact AllN.nil
          case rest =>
            obtain ⟨B8, B9, rfl, rfl, h8, h9, hb3⟩ := hcut
            obtain ⟨g0, g1, _⟩ := (hm.bl hb3).cells
            obtain ⟨y0, y1, _⟩ := (hE.bl hb3).cells hy
            obtain ⟨x0, _, _⟩ := (hE.bl hb3).cells hx
            have u0 : wc.cell? ⟨B8, 0, none⟩ = some (.int .u8 (a.c.toNat : Int)) := by rw [Lib.cell_of_heap h8]; rfl
            have u1 : wc.cell? ⟨B8, 1, none⟩ = some (.int .i64 (a.n : Int)) := by rw [Lib.cell_of_heap h8]; rfl
            have u2 : wc.cell? ⟨B8, 2, none⟩ = some (.bool a.o) := by rw [Lib.cell_of_heap h8]; rfl
            have u3 : wc.cell? ⟨B8, 3, none⟩ = some (.bool a.cl) := by rw [Lib.cell_of_heap h8]; rfl
            have v0 : wc.cell? ⟨B9, 0, none⟩ = some (.int .u8 (b.c.toNat : Int)) := by rw [Lib.cell_of_heap h9]; rfl
            have v1 : wc.cell? ⟨B9, 1, none⟩ = some (.int .i64 (b.n : Int)) := by rw [Lib.cell_of_heap h9]; rfl
            have v2 : wc.cell? ⟨B9, 2, none⟩ = some (.bool b.o) := by rw [Lib.cell_of_heap h9]; rfl
            have v3 : wc.cell? ⟨B9, 3, none⟩ = some (.bool b.cl) := by rw [Lib.cell_of_heap h9]; rfl
            have hl1 : decide (y.l < 1) = !decide (1 ≤ y.l) := by rw [Bool.eq_iff_iff]; simp
            have hbn := byte_ne a.c b.c
            have h26 := eq_126 b.c
            have hlk := hL jn y hy
            have hax := hbig a (List.mem_of_getElem? ha)
            have hbx := hbig b (List.mem_of_getElem? hb)
            have hnl : (y.l != x.l) = !(y.l == x.l) := rfl
            have hy' := hy
            clear ha hb hx hy
            cases hac : (a.c == b.c) with
            | false =>
              rw [hac] at hbn
              have R := Lib.hid (show seekE l E k low f y.p = T by rw [← hrel2.out, hfit.out, hac]; rfl)
              clear hl1 h26 hnl hac
              have hbn' : ((a.c.toNat : Int) != (b.c.toNat : Int)) = true := hbn
              clear hbn
              go_wp2
              go_roundw
              case rel => exact ⟨y.p, f, rfl, hpy.1, by omega, by omega, hb3, R⟩
              case measure => simp [intOf]; omega
            | true =>
              rw [hac] at hbn
              have hbn' : ((a.c.toNat : Int) != (b.c.toNat : Int)) = false := hbn
              clear hbn
              cases hao : a.o with
              | false =>
                rw [hao] at u2
                have R := Lib.hid (show seekE l E k low f y.p = T by rw [← hrel2.out, hfit.out, hac, hao]; rfl)
                go_wp2
                go_roundw
                case rel => exact ⟨y.p, f, rfl, hpy.1, by omega, by omega, hb3, R⟩
                case measure => simp [intOf]; omega
              | true =>
                rw [hao] at u2
                cases hll : decide (1 ≤ y.l) with
                | false =>
                  rw [hll] at hl1
                  have hl1' : decide (y.l < 1) = true := hl1
                  clear hl1
                  have R := Lib.hid (show seekE l E k low f y.p = T by rw [← hrel2.out, hfit.out, hac, hao, hll]; rfl)
                  go_wp2
                  go_roundw
                  case rel => exact ⟨y.p, f, rfl, hpy.1, by omega, by omega, hb3, R⟩
                  case measure => simp [intOf]; omega
                | true =>
                  rw [hll] at hl1
                  have hl1' : decide (y.l < 1) = false := hl1
                  clear hl1
                  cases h126 : (b.c == 126) with
                  | true =>
                    rw [h126] at h26
                    have h26' : ((b.c.toNat : Int) == 126) = true := h26
                    clear h26
                    cases hlx : (y.l == x.l) with
                    | false =>
                      rw [hlx] at hnl
                      have hnl' : (y.l != x.l) = true := hnl
                      clear hnl
                      have R := Lib.hid (show seekE l E k low f y.p = T by rw [← hrel2.out, hfit.out, hac, hao, hll, h126, hlx]; rfl)
                      go_wp2_with fail
                      go_quiet (fail)
                      go_wp2_with fail
                      go_roundw
                      case rel => exact ⟨y.p, f, rfl, hpy.1, by omega, by omega, hb3.trans ((Bl.refl _).drewN _), R⟩
                      case measure => simp [intOf]; omega
                    | true =>
                      rw [hlx] at hnl
                      have hnl' : (y.l != x.l) = false := hnl
                      clear hnl
                      have R := Lib.hid (show T = (jn : Int) by rw [← hrel2.out, hfit.out, hac, hao, hll, h126, hlx]; rfl)
                      go_wp2_with fail
                      go_quiet (fail)
                      go_wp2_with fail
                      go_ret
                      exact ⟨ret_int (by rw [R.out]), hb3.trans ((Bl.refl _).drewN _)⟩
                  | false =>
                    rw [h126] at h26
                    have h26' : ((b.c.toNat : Int) == 126) = false := h26
                    clear h26
                    have F9 : ∀ W, Calls Tryz.prog 200 #[.agg #[.int .u8 (a.c.toNat : Int), .int .i64 (a.n : Int), .bool true, .bool a.cl], .agg #[.int .u8 (b.c.toNat : Int), .int .i64 (b.n : Int), .bool b.o, .bool b.cl]] W fun e w' => e = .returned (.bool (fitsR a b)) ∧ Bl W w' := fun W => by
                      have := fits_any a b W hax hbx
                      unfold rnV at this
                      rw [hao] at this
                      exact this
                    cases hff : fitsR a b with
                    | false =>
                      rw [hff] at F9
                      have R := Lib.hid (show seekE l E k low f y.p = T by rw [← hrel2.out, hfit.out, hac, hao, hll, h126, hff]; rfl)
                      go_wp2_with fail
                      go_quiet (fail)
                      go_wp2_with fail
                      refine (F9 _).mono ?_
                      rintro e w5 ⟨rfl, hb5⟩
                      have hb6 := hb3.trans (((Bl.refl _).drewN _).trans hb5)
                      obtain ⟨g0, g1, _⟩ := (hm.bl hb6).cells
                      obtain ⟨y0, y1, _⟩ := (hE.bl hb6).cells hy'
                      dsimp only
                      go_wp2_with fail
                      go_roundw
                      case rel => exact ⟨y.p, f, rfl, hpy.1, by omega, by omega, hb6, R⟩
                      case measure => simp [intOf]; omega
                    | true =>
                      rw [hff] at F9
                      have R := Lib.hid (show T = (jn : Int) by rw [← hrel2.out, hfit.out, hac, hao, hll, h126, hff]; rfl)
                      go_wp2_with fail
                      go_quiet (fail)
                      go_wp2_with fail
                      refine (F9 _).mono ?_
                      rintro e w5 ⟨rfl, hb5⟩
                      have hb6 := hb3.trans (((Bl.refl _).drewN _).trans hb5)
                      dsimp only
                      go_wp2_with fail
                      go_ret
                      exact ⟨ret_int (by rw [R.out]), hb6⟩
end Go.Proofs.YtjocbifjmchbcaaGreatDoor
/- The matcher's entries as a chain: what the plain matcher keeps. -/
namespace Go.Proofs.YtjocbifjmchbcaaGreatDoor

def headI : List Nat → Int
  | [] => -1
  | a :: _ => (a : Int)
theorem headI_lo : ∀ l : List Nat, -1 ≤ headI l
  | [] => by simp [headI]
  | a :: _ => by simp [headI]
def ChP (E : List Ee) : Int → List Nat → Prop
  | _, [] => True
  | nx, j :: t => (∃ e, E[j]? = some e ∧ e.n = nx ∧ e.p = headI t) ∧ ChP E j t
structure Lk (n : Nat) (E : List Ee) (k : Nat) (stk left : List Nat) : Prop where
  len : E.length = n
  llen : left.length = n
  kn : k ≤ n
  desc : stk.Pairwise (· > ·)
  lt : ∀ x ∈ stk, x < k
  ch : ChP E k stk
  up : ∀ (i : Nat) (e : Ee), k ≤ i → E[i]? = some e → e.n = i + 1 ∧ e.p = if i = k then headI stk else (i : Int) - 1
  bd : ∀ (i : Nat) (e : Ee), E[i]? = some e → -1 ≤ e.p ∧ e.p < i ∧ (i : Int) < e.n ∧ e.n ≤ n
  lf : ∀ (i : Nat) (e : Ee), E[i]? = some e → e.l = ((left.getD i 0 : Nat) : Int)

theorem get_setN (E : List Ee) (i j : Nat) (x : Int) : (setN E i x)[j]? = E[j]?.map fun e => if j = i then { e with n := x } else e := by
  unfold setN
  rw [List.getElem?_set]
  by_cases h : i = j
  · subst h
    rw [if_pos rfl]
    by_cases h2 : i < E.length
    · rw [if_pos h2, List.getElem?_eq_getElem h2, List.getD_eq_getElem?_getD, List.getElem?_eq_getElem h2]; simp
    · rw [if_neg h2, List.getElem?_eq_none (by omega)]; rfl
  · rw [if_neg h]
    have : ¬ j = i := fun e => h e.symm
    simp [this]
theorem get_setP (E : List Ee) (i j : Nat) (x : Int) : (setP E i x)[j]? = E[j]?.map fun e => if j = i then { e with p := x } else e := by
  unfold setP
  rw [List.getElem?_set]
  by_cases h : i = j
  · subst h
    rw [if_pos rfl]
    by_cases h2 : i < E.length
    · rw [if_pos h2, List.getElem?_eq_getElem h2, List.getD_eq_getElem?_getD, List.getElem?_eq_getElem h2]; simp
    · rw [if_neg h2, List.getElem?_eq_none (by omega)]; rfl
  · rw [if_neg h]
    have : ¬ j = i := fun e => h e.symm
    simp [this]
theorem get_setL (E : List Ee) (i j : Nat) (x : Int) : (setL E i x)[j]? = E[j]?.map fun e => if j = i then { e with l := x } else e := by
  unfold setL
  rw [List.getElem?_set]
  by_cases h : i = j
  · subst h
    rw [if_pos rfl]
    by_cases h2 : i < E.length
    · rw [if_pos h2, List.getElem?_eq_getElem h2, List.getD_eq_getElem?_getD, List.getElem?_eq_getElem h2]; simp
    · rw [if_neg h2, List.getElem?_eq_none (by omega)]; rfl
  · rw [if_neg h]
    have : ¬ j = i := fun e => h e.symm
    simp [this]
theorem get_dropE {E : List Ee} {k : Nat} {x : Ee} (hk : E[k]? = some x) (hp : -1 ≤ x.p ∧ x.p < k ∧ (k : Int) < x.n) (i : Nat) :
    (dropE E k)[i]? = E[i]?.map fun e => { l := if i = k then 0 else e.l, p := if (i : Int) = x.n then x.p else e.p, n := if (i : Int) = x.p then x.n else e.n } := by
  unfold dropE
  rw [getD_of hk]
  dsimp only
  rw [get_setL]
  have h1 : ∀ j : Nat, (if 0 ≤ x.p then setN E x.p.toNat x.n else E)[j]? = E[j]?.map fun e => if (j : Int) = x.p then { e with n := x.n } else e := by
    intro j
    split
    · rw [get_setN]
      have : (j = x.p.toNat) = ((j : Int) = x.p) := by rw [eq_iff_iff]; omega
      simp only [this]
    · have : ¬ (j : Int) = x.p := by omega
      simp [this]
  have h2 : ∀ j : Nat, (if x.n < E.length then setP (if 0 ≤ x.p then setN E x.p.toNat x.n else E) x.n.toNat x.p else if 0 ≤ x.p then setN E x.p.toNat x.n else E)[j]? = E[j]?.map fun e => { e with p := if (j : Int) = x.n then x.p else e.p, n := if (j : Int) = x.p then x.n else e.n } := by
    intro j
    by_cases hn : x.n < E.length
    · rw [if_pos hn, get_setP, h1, Option.map_map]
      have : (j = x.n.toNat) = ((j : Int) = x.n) := by rw [eq_iff_iff]; omega
      simp only [this]
      congr 1
      funext e
      simp only [Function.comp]
      by_cases a1 : (j : Int) = x.p <;> by_cases a2 : (j : Int) = x.n
      · simp only [if_pos a1, if_pos a2]
      · simp only [if_pos a1, if_neg a2]
      · simp only [if_neg a1, if_pos a2]
      · simp only [if_neg a1, if_neg a2]
    · rw [if_neg hn, h1]
      cases hj : E[j]? with
      | none => rfl
      | some e =>
        have hjl := (List.getElem?_eq_some_iff.1 hj).1
        have a2 : ¬ (j : Int) = x.n := by omega
        simp only [Option.map_some, a2, if_false]
        by_cases a1 : (j : Int) = x.p <;> simp [a1]
  rw [h2, Option.map_map]
  congr 1
  funext e
  simp only [Function.comp]
  by_cases a1 : i = k <;> simp [a1]
theorem dropE_len (E : List Ee) (k : Nat) : (dropE E k).length = E.length := by
  unfold dropE
  dsimp only
  rw [setL_len]
  split <;> split <;> simp [setP_len, setN_len]
theorem ChP.congr {E E' : List Ee} : ∀ (l : List Nat) (nx : Int), (∀ (j : Nat) (e : Ee), j ∈ l → E[j]? = some e → ∃ e', E'[j]? = some e' ∧ e'.n = e.n ∧ e'.p = e.p) → ChP E nx l → ChP E' nx l
  | [], _, _, _ => trivial
  | j :: t, nx, h, ⟨⟨e, h1, h2, h3⟩, h4⟩ => by
    obtain ⟨e', g1, g2, g3⟩ := h j e List.mem_cons_self h1
    exact ⟨⟨e', g1, g2.trans h2, g3.trans h3⟩, ChP.congr t _ (fun j' e' hm => h j' e' (List.mem_cons_of_mem _ hm)) h4⟩
/-- The chain with another one behind its head. -/
theorem ChP.turn {E E' : List Ee} {nx nx' : Int} : ∀ (l : List Nat), l.Pairwise (· > ·) → (∀ (j : Nat) (e : Ee), j ∈ l → E[j]? = some e → ∃ e', E'[j]? = some e' ∧ e'.p = e.p ∧ e'.n = if (j : Int) = headI l then nx' else e.n) → ChP E nx l → ChP E' nx' l
  | [], _, _, _ => trivial
  | j :: t, hd, h, ⟨⟨e, h1, h2, h3⟩, h4⟩ => by
    obtain ⟨e', g1, g2, g3⟩ := h j e List.mem_cons_self h1
    refine ⟨⟨e', g1, by rw [g3]; simp [headI], g2.trans h3⟩, ChP.congr t _ (fun j' e'' hm he => ?_) h4⟩
    obtain ⟨e2, k1, k2, k3⟩ := h j' e'' (List.mem_cons_of_mem _ hm) he
    refine ⟨e2, k1, ?_, k2⟩
    rw [k3, if_neg]
    have := (List.pairwise_cons.1 hd).1 j' hm
    simp [headI]; omega
theorem headI_lt {l : List Nat} {k : Nat} (h : ∀ x ∈ l, x < k) : headI l < k := by
  cases l with
  | nil => simp [headI]; omega
  | cons a t => have := h a List.mem_cons_self; simp [headI]; omega
theorem Lk.step {n : Nat} {E : List Ee} {k : Nat} {stk left : List Nat} (h : Lk n E k stk left) (hk : k < n) : Lk n E (k + 1) (k :: stk) left := by
  refine ⟨h.len, h.llen, hk, List.pairwise_cons.2 ⟨fun x hx => h.lt x hx, h.desc⟩, fun x hx => ?_, ?_, fun i e hi he => ?_, h.bd, h.lf⟩
  · rcases List.mem_cons.1 hx with rfl | hx
    · omega
    · have := h.lt x hx; omega
  · obtain ⟨e, he⟩ : ∃ e, E[k]? = some e := ⟨_, List.getElem?_eq_getElem (by rw [h.len]; exact hk)⟩
    have := h.up k e (Nat.le_refl _) he
    rw [if_pos rfl] at this
    exact ⟨⟨e, he, by rw [this.1]; simp, this.2⟩, h.ch⟩
  · have := h.up i e (by omega) he
    rw [if_neg (by omega)] at this
    refine ⟨this.1, ?_⟩
    rw [this.2]
    split
    · subst_vars; simp [headI]
    · rfl
theorem getD_set' (l : List Nat) (i j v : Nat) (hi : i < l.length) : (l.set i v).getD j 0 = if j = i then v else l.getD j 0 := by
  rw [getD_set]
  by_cases h : i = j
  · subst h; simp [hi]
  · have : ¬ j = i := fun e => h e.symm
    simp [h, this]
theorem Lk.dropHead {n : Nat} {E : List Ee} {k a : Nat} {t left : List Nat} (h : Lk n E k (a :: t) left) (hk : k < n) : Lk n (dropE E a) k t (left.set a 0) := by
  obtain ⟨⟨x, hx, hxn, hxp⟩, hct⟩ := h.ch
  have hak := h.lt a List.mem_cons_self
  have hdt := (List.pairwise_cons.1 h.desc)
  have hta : headI t < a := headI_lt hdt.1
  have hb := h.bd a x hx
  have hg := get_dropE hx ⟨hb.1, hb.2.1, hb.2.2.1⟩
  rw [hxn, hxp] at hg
  refine ⟨by rw [dropE_len]; exact h.len, by simp [h.llen], h.kn, hdt.2, fun x hx => h.lt x (List.mem_cons_of_mem _ hx), ?_, fun i e hi he => ?_, fun i e he => ?_, fun i e he => ?_⟩
  · refine ChP.turn t hdt.2 (fun j e hj he => ⟨_, by rw [hg, he]; rfl, ?_, rfl⟩) hct
    have := h.lt j (List.mem_cons_of_mem _ hj)
    dsimp only
    rw [if_neg (by omega)]
  · rw [hg] at he
    cases h2 : E[i]? with
    | none => rw [h2] at he; cases he
    | some y =>
      rw [h2] at he
      cases he
      dsimp only
      have hu := h.up i y hi h2
      rw [if_neg (show ¬ (i : Int) = headI t by omega)]
      refine ⟨hu.1, ?_⟩
      by_cases hik : i = k
      · subst hik; simp
      · rw [if_neg (by omega), if_neg hik, hu.2, if_neg hik]
  · rw [hg] at he
    cases h2 : E[i]? with
    | none => rw [h2] at he; cases he
    | some y =>
      rw [h2] at he
      cases he
      dsimp only
      have hy := h.bd i y h2
      have h0 := headI_lo t
      refine ⟨?_, ?_, ?_, ?_⟩
      · split <;> omega
      · split <;> omega
      · split <;> omega
      · have := h.kn; split <;> omega
  · rw [hg] at he
    cases h2 : E[i]? with
    | none => rw [h2] at he; cases he
    | some y =>
      rw [h2] at he
      cases he
      dsimp only
      have hy := h.lf i y h2
      rw [getD_set' _ _ _ _ (by rw [h.llen]; omega)]
      split
      · rfl
      · exact hy
theorem Lk.dropK {n : Nat} {E : List Ee} {k : Nat} {stk left : List Nat} (h : Lk n E k stk left) (hk : k < n) : Lk n (dropE E k) (k + 1) stk (left.set k 0) := by
  obtain ⟨x, hx⟩ : ∃ e, E[k]? = some e := ⟨_, List.getElem?_eq_getElem (by rw [h.len]; exact hk)⟩
  have hu := h.up k x (Nat.le_refl _) hx
  rw [if_pos rfl] at hu
  obtain ⟨hxn, hxp⟩ := hu
  have hta : headI stk < k := headI_lt h.lt
  have hb := h.bd k x hx
  have hg := get_dropE hx ⟨hb.1, hb.2.1, hb.2.2.1⟩
  rw [hxn, hxp] at hg
  refine ⟨by rw [dropE_len]; exact h.len, by simp [h.llen], hk, h.desc, fun x hx => by have := h.lt x hx; omega, ?_, fun i e hi he => ?_, fun i e he => ?_, fun i e he => ?_⟩
  · refine ChP.turn stk h.desc (fun j e hj he => ⟨_, by rw [hg, he]; rfl, ?_, by simp⟩) h.ch
    have := h.lt j hj
    dsimp only
    rw [if_neg (by omega)]
  · rw [hg] at he
    cases h2 : E[i]? with
    | none => rw [h2] at he; cases he
    | some y =>
      rw [h2] at he
      cases he
      dsimp only
      have hu := h.up i y (by omega) h2
      rw [if_neg (show ¬ (i : Int) = headI stk by omega)]
      refine ⟨hu.1, ?_⟩
      by_cases hik : i = k + 1
      · subst hik; simp
      · rw [if_neg (by omega), if_neg hik, hu.2, if_neg (by omega)]
  · rw [hg] at he
    cases h2 : E[i]? with
    | none => rw [h2] at he; cases he
    | some y =>
      rw [h2] at he
      cases he
      dsimp only
      have hy := h.bd i y h2
      have h0 := headI_lo stk
      refine ⟨?_, ?_, ?_, ?_⟩
      · split <;> omega
      · split <;> omega
      · split <;> omega
      · split <;> omega
  · rw [hg] at he
    cases h2 : E[i]? with
    | none => rw [h2] at he; cases he
    | some y =>
      rw [h2] at he
      cases he
      dsimp only
      have hy := h.lf i y h2
      rw [getD_set' _ _ _ _ (by rw [h.llen]; omega)]
      split
      · rfl
      · exact hy
theorem Lk.setL {n : Nat} {E : List Ee} {k : Nat} {stk left : List Nat} (h : Lk n E k stk left) (i x : Nat) (hi : i < n) : Lk n (setL E i x) k stk (left.set i x) := by
  have hg := get_setL E i
  refine ⟨by rw [setL_len]; exact h.len, by simp [h.llen], h.kn, h.desc, h.lt, ?_, fun j e hj he => ?_, fun j e he => ?_, fun j e he => ?_⟩
  · refine ChP.congr stk _ (fun j e _ he => ⟨_, by rw [hg, he]; rfl, ?_, ?_⟩) h.ch
    · split <;> rfl
    · split <;> rfl
  · rw [hg] at he
    cases h2 : E[j]? with
    | none => rw [h2] at he; cases he
    | some y =>
      rw [h2] at he
      cases he
      have := h.up j y hj h2
      split <;> exact this
  · rw [hg] at he
    cases h2 : E[j]? with
    | none => rw [h2] at he; cases he
    | some y =>
      rw [h2] at he
      cases he
      have := h.bd j y h2
      split <;> exact this
  · rw [hg] at he
    cases h2 : E[j]? with
    | none => rw [h2] at he; cases he
    | some y =>
      rw [h2] at he
      cases he
      have := h.lf j y h2
      rw [getD_set' _ _ _ _ (by rw [h.llen]; exact hi)]
      split
      · rfl
      · exact this
theorem Lk.prev {n : Nat} {E : List Ee} {k : Nat} {stk left : List Nat} (h : Lk n E k stk left) (hk : k < n) : (E.getD k default).p = headI stk := by
  obtain ⟨x, hx⟩ : ∃ e, E[k]? = some e := ⟨_, List.getElem?_eq_getElem (by rw [h.len]; exact hk)⟩
  have := h.up k x (Nat.le_refl _) hx
  rw [if_pos rfl] at this
  rw [getD_of hx]; exact this.2
theorem Lk.left {n : Nat} {E : List Ee} {k : Nat} {stk left : List Nat} (h : Lk n E k stk left) {i : Nat} (hi : i < n) : (E.getD i default).l = ((left.getD i 0 : Nat) : Int) := by
  obtain ⟨x, hx⟩ : ∃ e, E[i]? = some e := ⟨_, List.getElem?_eq_getElem (by rw [h.len]; exact hi)⟩
  rw [getD_of hx]; exact h.lf i x hx

/-! the plain matcher's words -/
def keyI (x : UInt8 × Bool × Nat) : UInt8 × Bool × Int := (x.1, x.2.1, (x.2.2 : Int))
def botI (b : List ((UInt8 × Bool × Nat) × Int)) : List ((UInt8 × Bool × Int) × Int) := b.map fun x => (keyI x.1, x.2)
theorem keyI_inj {x y : UInt8 × Bool × Nat} (h : keyI x = keyI y) : x = y := by
  obtain ⟨a, b, c⟩ := x
  obtain ⟨a', b', c'⟩ := y
  simp [keyI] at h
  obtain ⟨h1, h2, h3⟩ := h
  have : c = c' := by omega
  rw [h1, h2, this]
theorem botI_lookup (x : UInt8 × Bool × Nat) : ∀ b, (botI b).lookup (keyI x) = b.lookup x
  | [] => rfl
  | (y, v) :: t => by
    have ih := botI_lookup x t
    unfold botI at ih ⊢
    rw [List.map_cons, List.lookup_cons, List.lookup_cons]
    have : (keyI x == keyI y) = (x == y) := by
      rw [Bool.eq_iff_iff]; simp only [beq_iff_eq]
      exact ⟨keyI_inj, fun e => by rw [e]⟩
    dsimp only
    rw [this, ih]
theorem key_eq {n : Nat} {E : List Ee} (l : List Rn) (m : Ms) (h : Lk n E m.k m.stk m.left) (hk : m.k < n) : keyE l E m.k = keyI (keyR l m) := by
  unfold keyE keyR keyI
  dsimp only
  split
  · rw [h.left hk]
  · simp
theorem low_eq {n : Nat} {E : List Ee} (l : List Rn) (m : Ms) (h : Lk n E m.k m.stk m.left) (hk : m.k < n) : lowE l E (botI m.bot) m.k = lowR l m := by
  unfold lowE lowR
  rw [key_eq l m h hk, botI_lookup]
theorem fits_eq {n : Nat} {E : List Ee} (l : List Rn) (m : Ms) (h : Lk n E m.k m.stk m.left) (hk : m.k < n) {j : Nat} (hj : j < n) : fitsE l E j m.k = opensR l m j := by
  unfold fitsE opensR
  dsimp only
  rw [h.left hk, h.left hj]
  have h1 : decide ((1 : Int) ≤ ((m.left.getD j 0 : Nat) : Int)) = decide (1 ≤ m.left.getD j 0) := by rw [Bool.eq_iff_iff]; simp only [decide_eq_true_eq]; omega
  have h2 : (((m.left.getD j 0 : Nat) : Int) == ((m.left.getD m.k 0 : Nat) : Int)) = (m.left.getD j 0 == m.left.getD m.k 0) := by rw [Bool.eq_iff_iff]; simp only [beq_iff_eq]; omega
  rw [h1, h2]
theorem size_eq {n : Nat} {E : List Ee} (l : List Rn) (m : Ms) (h : Lk n E m.k m.stk m.left) (hk : m.k < n) {j : Nat} (hj : j < n) : sizeE l E j m.k = ((sizeR l m j : Nat) : Int) := by
  unfold sizeE sizeR
  rw [h.left hk, h.left hj]
  split
  · rfl
  · omega
theorem seek_eq {n : Nat} {E : List Ee} (l : List Rn) (m : Ms) (h : Lk n E m.k m.stk m.left) (hk : m.k < n) (hlo : -1 ≤ lowR l m) : ∀ (s : List Nat) (f : Nat), s <:+ m.stk → (∀ x ∈ s, x < f) → seekE l E m.k (lowR l m) f (headI s) = headI (seekR l m s)
  | [], f, _, _ => by
    cases f with
    | zero => rfl
    | succ f => exact if_pos hlo
  | a :: t, 0, _, hf => absurd (hf a List.mem_cons_self) (by omega)
  | a :: t, f + 1, hs, hf => by
    have ham := hs.mem (List.mem_cons_self (a := a) (l := t))
    have hak := h.lt a ham
    have hts : t <:+ m.stk := (List.suffix_cons a t).trans hs
    have hd := h.desc.sublist hs.sublist
    show seekE l E m.k (lowR l m) (f + 1) (a : Int) = _
    rw [seekE, seekR, Int.toNat_natCast]
    rw [fits_eq l m h hk (by omega)]
    by_cases h1 : (a : Int) ≤ lowR l m
    · rw [if_pos h1, if_pos h1]; rfl
    · rw [if_neg h1, if_neg h1]
      by_cases h2 : opensR l m a = true
      · rw [if_pos h2, if_pos h2]; rfl
      · rw [if_neg h2, if_neg h2]
        have hc : (E.getD a default).p = headI t := by
          have := h.ch
          obtain ⟨pre, hpre⟩ := hs
          rw [← hpre] at this
          clear hpre
          generalize (m.k : Int) = nx at this
          induction pre generalizing nx with
          | nil => obtain ⟨⟨e, g1, g2, g3⟩, _⟩ := this; rw [getD_of g1]; exact g3
          | cons b pr ih => exact ih _ this.2
        rw [hc]
        have := seek_eq l m h hk hlo t f hts (fun x hx => by
          have h3 := (List.pairwise_cons.1 hd).1 x hx
          have h4 := hf a List.mem_cons_self
          omega)
        rw [this]
theorem lowR_lo (l : List Rn) (m : Ms) (h : ∀ x ∈ m.bot, -1 ≤ x.2) : -1 ≤ lowR l m := by
  unfold lowR
  cases h2 : m.bot.lookup (keyR l m) with
  | none => simp
  | some v =>
    simp only [Option.getD_some]
    have : ∀ b : List ((UInt8 × Bool × Nat) × Int), (∀ x ∈ b, -1 ≤ x.2) → b.lookup (keyR l m) = some v → -1 ≤ v := by
      intro b
      induction b with
      | nil => intro _ h; cases h
      | cons a t ih =>
        intro hb h
        obtain ⟨y, z⟩ := a
        rw [List.lookup_cons] at h
        split at h
        · cases h; exact hb _ List.mem_cons_self
        · exact ih (fun x hx => hb x (List.mem_cons_of_mem _ hx)) h
    exact this _ h h2
end Go.Proofs.YtjocbifjmchbcaaGreatDoor
/- The builder of nodes in memory. -/
namespace Go.Proofs.YtjocbifjmchbcaaGreatDoor
open Go.RowKit

/-- Nodes that are open, the innermost first: its kind, what is laid into it, and the slice that holds that. -/
abbrev Os := List (Nat × Fo × Value)
def blks (st : Os) : List Nat := st.filterMap fun x => x.2.2.ownBlock
def bsOf (st : Os) : Bs := st.map fun x => (x.1, x.2.1)
/-- The row of open nodes. -/
def OpenX (w : World) (base : Nat) (L : List Nat) : Os → List Value → Prop
  | [], xs => xs = []
  | x :: r, xs => ∃ ys zs, xs = ys ++ nodeV x.1 [] [] x.2.2 ∧ w.ownsRow base 27 7 x.2.2 x.2.1.len zs ∧ NodeCells w L x.2.1 zs ∧ OpenX w base L r ys
structure BdS (w0 w : World) (b g : Nat) (st : Os) : Prop where
  ex : ∃ cap xs, w.heap[b]? = some (.cells #[.slice (some ⟨g, 0, none⟩) st.length cap] 75 (0, 0)) ∧ w.ownsRow w0.heap.size 27 7 (.slice (some ⟨g, 0, none⟩) st.length cap) st.length xs ∧ OpenX w w0.heap.size (g :: blks st) st xs
  nd : (g :: blks st).Nodup
  bl : Bl w0 w
  ge : w0.heap.size ≤ b
theorem OpenX.length {w : World} {base : Nat} {L : List Nat} : ∀ {st : Os} {xs : List Value}, OpenX w base L st xs → xs.length = 7 * st.length
  | [], xs, h => by rw [OpenX] at h; subst h; rfl
  | x :: r, xs, ⟨ys, zs, h1, _, _, h4⟩ => by have := OpenX.length h4; subst h1; simp [nodeV, this]; omega
theorem mem_blks {st : Os} {k : Nat} : k ∈ blks st ↔ ∃ x ∈ st, x.2.2.ownBlock = some k := by simp [blks]
theorem OpenX.lt {w : World} {base : Nat} {L : List Nat} : ∀ {st : Os} {xs : List Value}, OpenX w base L st xs → ∀ k ∈ blks st, base ≤ k ∧ k < w.heap.size
  | [], _, _, k, h => by simp [blks] at h
  | x :: r, xs, ⟨ys, zs, _, h2, _, h4⟩, k, h => by
    obtain ⟨y, hy, hk⟩ := mem_blks.1 h
    rcases List.mem_cons.1 hy with rfl | hy
    · exact h2.lt k hk
    · exact OpenX.lt h4 k (mem_blks.2 ⟨y, hy, hk⟩)
theorem ownsRow_same {w w' : World} {base : Nat} {e : TypeId} {size n : Nat} {v : Value} {xs : List Value} (h : w.ownsRow base e size v n xs) (k : ∀ x, v.ownBlock = some x → w'.heap[x]? = w.heap[x]?) : w'.ownsRow base e size v n xs := by
  refine ⟨h.1, ?_⟩
  rcases h.2 with hn | ⟨g, cap, cur, rfl, hb, hgg, rest⟩
  · exact .inl hn
  · exact .inr ⟨g, cap, cur, rfl, hb, by rw [k g rfl]; exact hgg, rest⟩
/-- A world that turned no block of these keeps them. -/
theorem OpenX.more {w w' : World} {base : Nat} {L L' : List Nat} (F : Fr L w w') (hL : ∀ x ∈ L', x ∈ L ∨ w.heap.size ≤ x) : ∀ {st : Os} {xs : List Value}, OpenX w base L st xs → (∀ b ∈ blks st, w'.heap[b]? = w.heap[b]?) → OpenX w' base L' st xs
  | [], xs, h, _ => h
  | x :: r, xs, ⟨ys, zs, h1, h2, h3, h4⟩, hn => ⟨ys, zs, h1, ownsRow_same h2 (fun b hb => hn b (mem_blks.2 ⟨x, List.mem_cons_self, hb⟩)), h3.more F hL, OpenX.more F hL h4 (fun b hm => hn b (by
      obtain ⟨y, hy, hk⟩ := mem_blks.1 hm
      exact mem_blks.2 ⟨y, List.mem_cons_of_mem _ hy, hk⟩))⟩
theorem grownBy_of_bl {w w' : World} (h : Bl w w') (row : Option Nat) : w.grownBy w' row := ⟨h.out.os, h.out.tape, h.out.output, h.size, fun _ hi _ => h.block hi⟩
theorem BdS.more {w0 w w' : World} {b g : Nat} {st : Os} (h : BdS w0 w b g st) (k : Bl w w') : BdS w0 w' b g st := by
  obtain ⟨cap, xs, h1, h2, h3⟩ := h.ex
  exact ⟨⟨cap, xs, by rw [k.block (heap_lt h1)]; exact h1, h2.kept (grownBy_of_bl k none) (by simp [Value.ownBlock]), h3.more (Fr.of_bl _ k) (fun _ hx => .inl hx) (fun x hx => k.block (h3.lt x hx).2)⟩, h.nd, h.bl.trans k, h.ge⟩

theorem ownsRow_slice {w : World} {base : Nat} {e : TypeId} {size n : Nat} {v : Value} {xs : List Value} (h : w.ownsRow base e size v n xs) : ∃ ao c, v = .slice ao n c := by
  rcases h.2 with ⟨rfl, rfl⟩ | ⟨g, cap, cur, rfl, _⟩
  · exact ⟨_, _, rfl⟩
  · exact ⟨_, _, rfl⟩
/-- A store into a row of the call's own. -/
theorem ownsRow_setCells {w : World} {base : Nat} {e : TypeId} {size g n cap : Nat} {xs ys zs news : List Value} (h : w.ownsRow base e size (.slice (some ⟨g, 0, none⟩) n cap) n xs) (hx : xs = ys ++ zs) (hl : news.length = zs.length) :
    (w.setCells g ys.length news).ownsRow base e size (.slice (some ⟨g, 0, none⟩) n cap) n (ys ++ news) := by
  obtain ⟨hlen, h2⟩ := h
  refine ⟨by rw [← hlen, hx]; simp [hl], ?_⟩
  rcases h2 with ⟨h1, _⟩ | ⟨g', cap', cur, h1, h3, h4, h5, h6, h7, h8⟩
  · cases h1
  · cases h1
    have gen : ∀ (vs : List Value) (o : Nat) (w : World) (cur : Array Value), w.heap[g]? = some (.cells cur e (0, 0)) → ∃ cur', (w.setCells g o vs).heap[g]? = some (.cells cur' e (0, 0)) ∧ cur'.size = cur.size ∧ (o + vs.length ≤ cur.size → cur'.toList = cur.toList.take o ++ vs ++ cur.toList.drop (o + vs.length)) := by
      intro vs
      induction vs with
      | nil => intro o w cur hw; exact ⟨cur, hw, rfl, fun _ => by simp⟩
      | cons v r ih =>
        intro o w cur hw
        have hs : (w.setCell ⟨g, o, none⟩ v).heap[g]? = some (.cells (cur.setIfInBounds o v) e (0, 0)) := by
          simp [World.setCell, Array.getElem?_modify, hw]
        obtain ⟨cur', c1, c2, c3⟩ := ih (o + 1) _ _ hs
        refine ⟨cur', c1, by rw [c2]; simp, fun hle => ?_⟩
        rw [List.length_cons] at hle
        rw [c3 (by simp; omega)]
        have ho : o < cur.toList.length := by simp; omega
        rw [Array.toList_setIfInBounds, List.take_succ_eq_append_getElem (by rw [List.length_set]; exact ho), List.getElem_set_self, List.take_set_of_le (Nat.le_refl _), List.drop_set_of_lt (by omega)]
        simp [Nat.add_assoc, Nat.add_comm 1]
    obtain ⟨cur', c1, c2, c3⟩ := gen news ys.length w cur h4
    refine .inr ⟨g, cap, cur', rfl, h3, c1, h5, h6, by rw [c2]; exact h7, ?_⟩
    have hle : ys.length + zs.length = n * size := by rw [← hlen, hx]; simp
    have hle2 : n * size ≤ cur.size := by rw [h7]; exact Nat.mul_le_mul_right _ h5
    rw [c3 (by rw [hl]; omega)]
    have e1 : cur.toList.take ys.length = ys := by
      have : (cur.toList.take (n * size)).take ys.length = ys := by rw [h8, hx]; simp
      rw [List.take_take, Nat.min_eq_left (by omega)] at this
      exact this
    rw [e1, List.take_append_of_le_length (by simp [hl]; omega), List.take_of_length_le (by simp [hl]; omega)]

/-- The cells of a row's last element of seven. -/
theorem row_last {w : World} {base : Nat} {e : TypeId} {g n cap : Nat} {zs : List Value} {x0 x1 x2 x3 x4 x5 x6 : Value} (h : w.ownsRow base e 7 (.slice (some ⟨g, 0, none⟩) (n + 1) cap) (n + 1) (zs ++ [x0, x1, x2, x3, x4, x5, x6])) (hz : zs.length = n * 7) :
    (w.cell? ⟨g, n * 7, none⟩ = some x0 ∧ w.cell? ⟨g, n * 7 + 1, none⟩ = some x1 ∧ w.cell? ⟨g, n * 7 + 2, none⟩ = some x2 ∧ w.cell? ⟨g, n * 7 + 3, none⟩ = some x3 ∧ w.cell? ⟨g, n * 7 + 4, none⟩ = some x4 ∧ w.cell? ⟨g, n * 7 + 5, none⟩ = some x5 ∧ w.cell? ⟨g, n * 7 + 6, none⟩ = some x6) ∧ ∀ o, w.frozen? ⟨g, o, none⟩ = false := by
  have c : ∀ j u, [x0, x1, x2, x3, x4, x5, x6][j]? = some u → w.cell? ⟨g, n * 7 + j, none⟩ = some u := fun j u hj => by
    have := h.cells rfl (n * 7 + j) u (by rw [List.getElem?_append_right (by omega), hz]; simpa using hj)
    rwa [show (⟨g, 0, none⟩ : Addr).add (n * 7 + j) = ⟨g, n * 7 + j, none⟩ by unfold Addr.add; split <;> simp_all] at this
  refine ⟨⟨c 0 _ rfl, c 1 _ rfl, c 2 _ rfl, c 3 _ rfl, c 4 _ rfl, c 5 _ rfl, c 6 _ rfl⟩, fun o => ?_⟩
  rcases h.2 with ⟨h1, _⟩ | ⟨g', cap', cur, h1, h3, h4, _⟩
  · cases h1
  · cases h1
    exact Lib.frozen_of_heap h4 o

/-! ### stores side by side -/
theorem setCell_comm (w : World) (p q : Addr) (x y : Value) (h : p.block ≠ q.block) : (w.setCell p x).setCell q y = (w.setCell q y).setCell p x := by
  unfold World.setCell
  congr 1
  apply Array.ext
  · simp
  · intro i h1 h2
    simp only [Array.getElem_modify]
    by_cases e1 : p.block = i
    · by_cases e2 : q.block = i
      · exact absurd (e1.trans e2.symm) h
      · simp [e1, e2]
    · simp [e1]
theorem setCells_comm (b : Nat) (p : Addr) (x : Value) (h : p.block ≠ b) : ∀ (vs : List Value) (o : Nat) (w : World), (w.setCell p x).setCells b o vs = (w.setCells b o vs).setCell p x
  | [], _, _ => rfl
  | v :: r, o, w => by rw [World.setCells, World.setCells, setCell_comm w p ⟨b, o, none⟩ x v h, setCells_comm b p x h r (o + 1)]
theorem heap_setCells_far (b : Nat) : ∀ (vs : List Value) (o : Nat) (w : World) (i : Nat), i ≠ b → (w.setCells b o vs).heap[i]? = w.heap[i]?
  | [], _, _, _, _ => rfl
  | v :: r, o, w, i, h => by rw [World.setCells, heap_setCells_far b r (o + 1) _ i h]; exact Below.heap_setCell w _ _ i h
theorem size_setCells_w (b : Nat) : ∀ (vs : List Value) (o : Nat) (w : World), (w.setCells b o vs).heap.size = w.heap.size
  | [], _, _ => rfl
  | v :: r, o, w => by rw [World.setCells, size_setCells_w b r (o + 1)]; simp
theorem same_setCells (b : Nat) : ∀ (vs : List Value) (o : Nat) (w : World), (w.setCells b o vs).os = w.os ∧ (w.setCells b o vs).tape = w.tape ∧ (w.setCells b o vs).output = w.output
  | [], _, _ => ⟨rfl, rfl, rfl⟩
  | v :: r, o, w => same_setCells b r (o + 1) (w.setCell ⟨b, o, none⟩ v)
theorem grownBy_setCells (w : World) (b o : Nat) (vs : List Value) : w.grownBy (w.setCells b o vs) (some b) :=
  ⟨(same_setCells b vs o w).1, (same_setCells b vs o w).2.1, (same_setCells b vs o w).2.2, Nat.le_of_eq (size_setCells_w b vs o w).symm, fun i _ hi => heap_setCells_far b vs o w i (fun e => hi (by rw [e]))⟩
theorem grownBy_setCell (w : World) (p : Addr) (x : Value) : w.grownBy (w.setCell p x) (some p.block) :=
  ⟨rfl, rfl, rfl, by simp, fun i _ hi => Below.heap_setCell w p x i (fun e => hi (by rw [e]))⟩
theorem Bl.grown {w0 w w' : World} {row : Option Nat} (h : Bl w0 w) (k : w.grownBy w' row) (hr : ∀ b, row = some b → w0.heap.size ≤ b) : Bl w0 w' := ⟨h.out.grown k h.size hr⟩

theorem setCells7 (w : World) (g o : Nat) (x0 x1 x2 x3 x4 x5 x6 : Value) : w.setCells g o [x0, x1, x2, x3, x4, x5, x6] = ((((((w.setCell ⟨g, o, none⟩ x0).setCell ⟨g, o + 1, none⟩ x1).setCell ⟨g, o + 2, none⟩ x2).setCell ⟨g, o + 3, none⟩ x3).setCell ⟨g, o + 4, none⟩ x4).setCell ⟨g, o + 5, none⟩ x5).setCell ⟨g, o + 6, none⟩ x6 := rfl
theorem row_block {w : World} {base : Nat} {e : TypeId} {size g n cap : Nat} {xs : List Value} (h : w.ownsRow base e size (.slice (some ⟨g, 0, none⟩) n cap) n xs) : ∃ cur, w.heap[g]? = some (.cells cur e (0, 0)) := by
  rcases h.2 with ⟨h1, _⟩ | ⟨g', cap', cur, h1, _, hh, _⟩
  · cases h1
  · cases h1; exact ⟨cur, hh⟩
/-- All that is neither nodes nor a builder lies as it lay. -/
structure Oth2 (w w' : World) : Prop where
  size : w.heap.size ≤ w'.heap.size
  same : ∀ (i : Nat) (o : Obj), w.heap[i]? = some o → (∀ cs fz, o ≠ .cells cs 27 fz) → (∀ cs fz, o ≠ .cells cs 75 fz) → w'.heap[i]? = some o
theorem Oth2.refl (w : World) : Oth2 w w := ⟨Nat.le_refl _, fun _ _ h _ _ => h⟩
theorem Oth2.trans {a b c : World} (h : Oth2 a b) (k : Oth2 b c) : Oth2 a c := ⟨Nat.le_trans h.size k.size, fun i o h0 h1 h2 => k.same i o (h.same i o h0 h1 h2) h1 h2⟩
theorem Oth2.of_bl {w w' : World} (h : Bl w w') : Oth2 w w' := ⟨h.size, fun i o h0 _ _ => by rw [h.block (heap_lt h0)]; exact h0⟩
theorem Oth2.of_grown {w w' : World} {row : Option Nat} (h : w.grownBy w' row) (hr : ∀ k, row = some k → ∃ cs t fz, w.heap[k]? = some (.cells cs t fz) ∧ (t = 27 ∨ t = 75)) : Oth2 w w' :=
  ⟨h.size, fun i o h0 h1 h2 => by
    rw [h.block i (heap_lt h0) (fun e => by
      obtain ⟨cs, t, fz, hk, ht⟩ := hr i e.symm
      rw [h0] at hk
      cases hk
      rcases ht with rfl | rfl
      · exact h1 _ _ rfl
      · exact h2 _ _ rfl)]
    exact h0⟩
/-- What add leaves. -/
theorem badd_end {w0 w w1 w2 : World} {b g k0 : Nat} {f : Fo} {v0 : Value} {r : Os} (hB : BdS w0 w b g ((k0, f, v0) :: r)) {k : Nat} {s t : List UInt8} {v : Value} {l : Fo} (hR : Rep w (g :: blks ((k0, f, v0) :: r)) v l)
    (hbl : Bl w w1) {zs zero : List Value} {cap xs ys} (h1 : w.heap[b]? = some (.cells #[.slice (some ⟨g, 0, none⟩) (r.length + 1) cap] 75 (0, 0)))
    (h2 : w.ownsRow w0.heap.size 27 7 (.slice (some ⟨g, 0, none⟩) (r.length + 1) cap) (r.length + 1) xs) (h3 : xs = ys ++ nodeV k0 [] [] v0)
    (h4 : w.ownsRow w0.heap.size 27 7 v0 f.len zs) (h5 : NodeCells w (g :: blks ((k0, f, v0) :: r)) f zs) (h6 : OpenX w w0.heap.size (g :: blks ((k0, f, v0) :: r)) r ys)
    {gg cap1 : Nat} (hown : w2.ownsRow w0.heap.size 27 7 (.slice (some ⟨gg, 0, none⟩) (f.len + 1) cap1) (f.len + 1) (zs ++ zero)) (hz : zero.length = 7) (hgrow : w1.grownBy w2 v0.ownBlock) (hat : v0.ownBlock = some gg ∨ w.heap.size ≤ gg) :
    ∃ v1, BdS w0 ((w2.setCells gg (f.len * 7) (nodeV k s t v)).setCell ⟨g, r.length * 7 + 6, none⟩ (.slice (some ⟨gg, 0, none⟩) (f.len + 1) cap1)) b g ((k0, f.snoc k s t l, v1) :: r) ∧ Oth2 w ((w2.setCells gg (f.len * 7) (nodeV k s t v)).setCell ⟨g, r.length * 7 + 6, none⟩ (.slice (some ⟨gg, 0, none⟩) (f.len + 1) cap1)) := by
  have hzl : zs.length = f.len * 7 := by rw [NodeCells.length h5]; omega
  have hyl : ys.length = r.length * 7 := by rw [OpenX.length h6]; omega
  have nd := hB.nd
  have ndg : g ∉ blks ((k0, f, v0) :: r) := (List.nodup_cons.1 nd).1
  have hblk : ∀ x, x ∈ blks r → x ∈ blks ((k0, f, v0) :: r) := fun x hx => by
    obtain ⟨y, hy, hk⟩ := mem_blks.1 hx; exact mem_blks.2 ⟨y, List.mem_cons_of_mem _ hy, hk⟩
  have hv0 : ∀ x, v0.ownBlock = some x → x ∈ blks ((k0, f, v0) :: r) ∧ x ∉ blks r := fun x hx => by
    refine ⟨mem_blks.2 ⟨_, List.mem_cons_self, hx⟩, fun hm => ?_⟩
    have h := (List.nodup_cons.1 nd).2
    unfold blks at h
    rw [List.filterMap_cons] at h
    simp only [hx] at h
    exact (List.nodup_cons.1 h).1 hm
  have hlt := h2.lt g rfl
  have hblt : ∀ x ∈ blks r, w0.heap.size ≤ x ∧ x < w.heap.size := h6.lt
  have gne : gg ≠ g := by
    rintro rfl
    rcases hat with h | h
    · exact ndg (hv0 _ h).1
    · omega
  have gnr : gg ∉ blks r := fun hm => by
    rcases hat with h | h
    · exact (hv0 _ h).2 hm
    · have := hblt _ hm; omega
  have gge : w0.heap.size ≤ gg := (hown.lt gg rfl).1
  have hb := heap_lt h1
  have hne : b ≠ g := fun e => by
    subst e
    rcases h2.2 with ⟨h, _⟩ | ⟨g', cap', cur, h, _, hh, _⟩
    · cases h
    · cases h; rw [h1] at hh; cases hh
  have hneg : b ≠ gg := fun e => by
    subst e
    rcases hat with h | h
    · obtain ⟨y, hy, hk⟩ := mem_blks.1 (hv0 _ h).1
      rcases h4.2 with ⟨h', _⟩ | ⟨g', cap', cur, h', _, hh, _⟩
      · rw [h'] at h; cases h
      · rw [h'] at h; cases h; rw [h1] at hh; cases hh
    · omega
  have hbv : v0.ownBlock ≠ some b := fun h => by
    rcases h4.2 with ⟨h', _⟩ | ⟨g', cap', cur, h', _, hh, _⟩
    · rw [h'] at h; cases h
    · rw [h'] at h; cases h; rw [h1] at hh; cases hh
  -- the three steps
  have s2 := grownBy_setCells w2 gg (f.len * 7) (nodeV k s t v)
  obtain ⟨w3, hw3⟩ : ∃ w3, w2.setCells gg (f.len * 7) (nodeV k s t v) = w3 := ⟨_, rfl⟩
  have hrow : w3.ownsRow w0.heap.size 27 7 (.slice (some ⟨gg, 0, none⟩) (f.len + 1) cap1) (f.len + 1) (zs ++ nodeV k s t v) := by
    have := ownsRow_setCells (news := nodeV k s t v) hown rfl (by rw [hz]; rfl)
    rwa [hzl, hw3] at this
  rw [hw3] at s2 ⊢
  have s3 := grownBy_setCell w3 ⟨g, r.length * 7 + 6, none⟩ (.slice (some ⟨gg, 0, none⟩) (f.len + 1) cap1)
  obtain ⟨w4, hw4⟩ : ∃ w4, w3.setCell ⟨g, r.length * 7 + 6, none⟩ (.slice (some ⟨gg, 0, none⟩) (f.len + 1) cap1) = w4 := ⟨_, rfl⟩
  have hgrow4 : w4.ownsRow w0.heap.size 27 7 (.slice (some ⟨g, 0, none⟩) (r.length + 1) cap) (r.length + 1) (ys ++ nodeV k0 [] [] (.slice (some ⟨gg, 0, none⟩) (f.len + 1) cap1)) := by
    have a1 := ((h2.kept (grownBy_of_bl hbl none) (by simp [Value.ownBlock])).kept hgrow (.inr (fun e => ndg (hv0 g e.symm).1))).kept s2 (.inr (fun e => gne (Option.some.inj e).symm))
    have e7 : xs = (ys ++ [.int .i64 (k0 : Int), .string (mkB []), .string (mkB []), .int .i64 0, .int .i64 0, .bool false]) ++ [v0] := by rw [h3]; simp [nodeV]
    have a2 := ownsRow_setCells (news := [.slice (some ⟨gg, 0, none⟩) (f.len + 1) cap1]) a1 e7 rfl
    have e8 : (ys ++ [Value.int .i64 (k0 : Int), .string (mkB []), .string (mkB []), .int .i64 0, .int .i64 0, .bool false]).length = r.length * 7 + 6 := by simp [hyl]
    rw [e8] at a2
    have e9 : w3.setCells g (r.length * 7 + 6) [.slice (some ⟨gg, 0, none⟩) (f.len + 1) cap1] = w4 := hw4
    rw [e9] at a2
    simpa [nodeV] using a2
  rw [hw4] at s3 ⊢
  -- what nodes are laid elsewhere
  have F1 : Fr (g :: blks ((k0, f, v0) :: r)) w w2 := (Fr.of_bl _ hbl).trans (Fr.of_grown hgrow (fun x hx => .inl (List.mem_cons_of_mem _ (hv0 x hx).1))) (fun x hx => .inl hx)
  have F2 : Fr (gg :: g :: blks ((k0, f, v0) :: r)) w2 w4 := (Fr.of_grown s2 (fun x hx => .inl (by cases hx; exact List.mem_cons_self))).trans (Fr.of_grown (L := gg :: g :: blks ((k0, f, v0) :: r)) s3 (fun x hx => .inl (by cases hx; exact List.mem_cons_of_mem _ List.mem_cons_self))) (fun x hx => .inl hx)
  have F : Fr (g :: blks ((k0, f, v0) :: r)) w w4 := ⟨Nat.le_trans F1.size F2.size, fun x cs fz hx hn => F2.block x cs fz (F1.block x cs fz hx hn) (fun hm => by
    rcases List.mem_cons.1 hm with rfl | hm
    · rcases hat with h | h
      · exact hn (List.mem_cons_of_mem _ (hv0 _ h).1)
      · have := heap_lt hx; omega
    · exact hn hm)⟩
  have hL : ∀ x ∈ g :: blks ((k0, f.snoc k s t l, Value.slice (some ⟨gg, 0, none⟩) (f.len + 1) cap1) :: r), x ∈ g :: blks ((k0, f, v0) :: r) ∨ w.heap.size ≤ x := fun x hx => by
    rcases List.mem_cons.1 hx with rfl | hx
    · exact .inl List.mem_cons_self
    · obtain ⟨y, hy, hk⟩ := mem_blks.1 hx
      rcases List.mem_cons.1 hy with rfl | hy
      · cases hk
        rcases hat with h | h
        · exact .inl (List.mem_cons_of_mem _ (hv0 _ h).1)
        · exact .inr h
      · exact .inl (List.mem_cons_of_mem _ (hblk _ (mem_blks.2 ⟨y, hy, hk⟩)))
  have O : Oth2 w w4 := by
    obtain ⟨c0, hc0⟩ := row_block hown
    obtain ⟨c1, hc1⟩ := row_block hrow
    obtain ⟨c2, hc2⟩ := row_block h2
    have hg3 : w3.heap[g]? = some (.cells c2 27 (0, 0)) := by
      rw [s2.block g (Nat.lt_of_lt_of_le hlt.2 (Nat.le_trans hbl.size hgrow.size)) (fun e => gne (Option.some.inj e).symm), hgrow.block g (Nat.lt_of_lt_of_le hlt.2 hbl.size) (fun e => ndg (hv0 g e.symm).1), hbl.block hlt.2]; exact hc2
    refine (((Oth2.of_bl hbl).trans (Oth2.of_grown hgrow (fun x hx => ?_))).trans (Oth2.of_grown s2 (fun x hx => by cases hx; exact ⟨_, _, _, hc0, .inl rfl⟩))).trans (Oth2.of_grown s3 (fun x hx => by cases hx; exact ⟨_, _, _, hg3, .inl rfl⟩))
    rcases h4.2 with ⟨h', _⟩ | ⟨g', cap', cur, h', _, hh, _⟩
    · rw [h'] at hx; cases hx
    · rw [h'] at hx; cases hx; exact ⟨_, _, _, (hbl.block (heap_lt hh)).trans hh, .inl rfl⟩
  refine ⟨.slice (some ⟨gg, 0, none⟩) (f.len + 1) cap1, ⟨⟨cap, ys ++ nodeV k0 [] [] (.slice (some ⟨gg, 0, none⟩) (f.len + 1) cap1), ?_, hgrow4, ys, zs ++ nodeV k s t v, rfl, ?_, ?_, ?_⟩, ?_, ?_, hB.ge⟩, O⟩
  · have c1 : w2.heap[b]? = w.heap[b]? := (hgrow.block b (Nat.lt_of_lt_of_le hb hbl.size) (fun e => hbv e.symm)).trans (hbl.block hb)
    rw [← hw4, Below.heap_setCell _ _ _ _ hne, ← hw3, heap_setCells_far _ _ _ _ _ hneg, c1]
    exact h1
  · dsimp only
    rw [Fo.len_snoc]
    exact hrow.kept s3 (.inr (fun e => gne (Option.some.inj e)))
  · dsimp only
    unfold Fo.snoc
    exact (h5.more F hL).app (.one (hR.more F hL))
  · refine h6.more F hL (fun x hx => ?_)
    have hxl := (hblt x hx).2
    have x1 : x ≠ g := fun e => ndg (e ▸ hblk x hx)
    have x2 : x ≠ gg := fun e => gnr (e ▸ hx)
    rw [s3.block x (Nat.lt_of_lt_of_le hxl (Nat.le_trans hbl.size (Nat.le_trans hgrow.size s2.size))) (fun e => x1 (Option.some.inj e)), s2.block x (Nat.lt_of_lt_of_le hxl (Nat.le_trans hbl.size hgrow.size)) (fun e => x2 (Option.some.inj e)),
      hgrow.block x (Nat.lt_of_lt_of_le hxl hbl.size) (fun e => (hv0 x e.symm).2 hx), hbl.block hxl]
  · have e : blks ((k0, f.snoc k s t l, Value.slice (some ⟨gg, 0, none⟩) (f.len + 1) cap1) :: r) = gg :: blks r := rfl
    rw [e]
    refine List.nodup_cons.2 ⟨fun hm => ?_, List.nodup_cons.2 ⟨gnr, ?_⟩⟩
    · rcases List.mem_cons.1 hm with h | h
      · exact gne h.symm
      · exact ndg (hblk _ h)
    · have h := (List.nodup_cons.1 nd).2
      unfold blks at h
      rw [List.filterMap_cons] at h
      split at h
      · exact h
      · exact (List.nodup_cons.1 h).2
  · exact ((((hB.bl.trans hbl).grown hgrow (fun x hx => (h4.lt x hx).1)).grown s2 (fun x hx => by cases hx; exact gge)).grown s3 (fun x hx => by cases hx; exact hlt.1))

theorem mkB_nil : mkB [] = ⟨#[]⟩ := rfl
/-- What begin leaves. -/
theorem bbegin_end {w0 w w1 w2 : World} {b g : Nat} {st : Os} (hB : BdS w0 w b g st) {k : Nat} (hbl : Bl w w1) {zero : List Value} {cap xs} (h1 : w.heap[b]? = some (.cells #[.slice (some ⟨g, 0, none⟩) st.length cap] 75 (0, 0)))
    (h2 : w.ownsRow w0.heap.size 27 7 (.slice (some ⟨g, 0, none⟩) st.length cap) st.length xs) (h3 : OpenX w w0.heap.size (g :: blks st) st xs)
    {gg cap1 : Nat} (hown : w2.ownsRow w0.heap.size 27 7 (.slice (some ⟨gg, 0, none⟩) (st.length + 1) cap1) (st.length + 1) (xs ++ zero)) (hz : zero.length = 7) (hgrow : w1.grownBy w2 (some g)) (hat : g = gg ∨ w.heap.size ≤ gg) :
    BdS w0 ((w2.setCells gg (st.length * 7) (nodeV k [] [] (.slice none 0 0))).setCell ⟨b, 0, none⟩ (.slice (some ⟨gg, 0, none⟩) (st.length + 1) cap1)) b gg ((k, .nil, .slice none 0 0) :: st) ∧ Oth2 w ((w2.setCells gg (st.length * 7) (nodeV k [] [] (.slice none 0 0))).setCell ⟨b, 0, none⟩ (.slice (some ⟨gg, 0, none⟩) (st.length + 1) cap1)) := by
  have hxl : xs.length = st.length * 7 := by rw [h3.length]; omega
  have nd := hB.nd
  have hb := heap_lt h1
  obtain ⟨cur, hcur⟩ := row_block h2
  have hne : b ≠ g := fun e => by rw [← e, h1] at hcur; cases hcur
  have hneg : b ≠ gg := fun e => by
    rcases hat with h | h
    · exact hne (e.trans h.symm)
    · omega
  have gge : w0.heap.size ≤ gg := (hown.lt gg rfl).1
  have hlt := h2.lt g rfl
  have hblt := h3.lt
  have gnr : gg ∉ blks st := fun hm => by
    rcases hat with h | h
    · exact (List.nodup_cons.1 nd).1 (h ▸ hm)
    · have := hblt _ hm; omega
  have s2 := grownBy_setCells w2 gg (st.length * 7) (nodeV k [] [] (.slice none 0 0))
  have hrow := ownsRow_setCells (news := nodeV k [] [] (.slice none 0 0)) hown rfl (by rw [hz]; rfl)
  rw [hxl] at hrow
  obtain ⟨w3, hw3⟩ : ∃ w3, w2.setCells gg (st.length * 7) (nodeV k [] [] (.slice none 0 0)) = w3 := ⟨_, rfl⟩
  rw [hw3] at s2 hrow ⊢
  have s3 := grownBy_setCell w3 ⟨b, 0, none⟩ (.slice (some ⟨gg, 0, none⟩) (st.length + 1) cap1)
  have hb3 : w3.heap[b]? = some (.cells #[.slice (some ⟨g, 0, none⟩) st.length cap] 75 (0, 0)) := by
    rw [s2.block b (Nat.lt_of_lt_of_le hb (Nat.le_trans hbl.size hgrow.size)) (fun e => hneg (Option.some.inj e)), hgrow.block b (Nat.lt_of_lt_of_le hb hbl.size) (fun e => hne (Option.some.inj e)), hbl.block hb]; exact h1
  have hb4 : (w3.setCell ⟨b, 0, none⟩ (.slice (some ⟨gg, 0, none⟩) (st.length + 1) cap1)).heap[b]? = some (.cells #[.slice (some ⟨gg, 0, none⟩) (st.length + 1) cap1] 75 (0, 0)) := by
    simp [World.setCell, Array.getElem?_modify, hb3]
  obtain ⟨w4, hw4⟩ : ∃ w4, w3.setCell ⟨b, 0, none⟩ (.slice (some ⟨gg, 0, none⟩) (st.length + 1) cap1) = w4 := ⟨_, rfl⟩
  rw [hw4] at s3 hb4 ⊢
  have F1 : Fr (g :: blks st) w w2 := (Fr.of_bl _ hbl).trans (Fr.of_grown (L := g :: blks st) hgrow (fun x hx => .inl (by cases hx; exact List.mem_cons_self))) (fun x hx => .inl hx)
  have F2 : Fr (gg :: g :: blks st) w2 w4 := (Fr.of_grown s2 (fun x hx => .inl (by cases hx; exact List.mem_cons_self))).trans (Fr.of_grown (L := gg :: g :: blks st) s3 (fun x hx => .inr ⟨_, _, _, by cases hx; exact hb3, by decide⟩)) (fun x hx => .inl hx)
  have F : Fr (g :: blks st) w w4 := ⟨Nat.le_trans F1.size F2.size, fun x cs fz hx hn => F2.block x cs fz (F1.block x cs fz hx hn) (fun hm => by
    rcases List.mem_cons.1 hm with rfl | hm
    · rcases hat with h | h
      · exact hn (h ▸ List.mem_cons_self)
      · have := heap_lt hx; omega
    · exact hn hm)⟩
  have hbk : blks ((k, Fo.nil, Value.slice none 0 0) :: st) = blks st := rfl
  have O : Oth2 w w4 := by
    obtain ⟨c0, hc0⟩ := row_block hown
    exact (((Oth2.of_bl hbl).trans (Oth2.of_grown hgrow (fun x hx => by cases hx; exact ⟨_, _, _, (hbl.block hlt.2).trans hcur, .inl rfl⟩))).trans (Oth2.of_grown s2 (fun x hx => by cases hx; exact ⟨_, _, _, hc0, .inl rfl⟩))).trans (Oth2.of_grown s3 (fun x hx => by cases hx; exact ⟨_, _, _, hb3, .inr rfl⟩))
  refine ⟨⟨⟨cap1, xs ++ nodeV k [] [] (.slice none 0 0), hb4, ownsRow_same hrow (fun x hx => s3.block x (by cases hx; exact Nat.lt_of_lt_of_le (hown.lt gg rfl).2 s2.size) (fun e => by cases hx; exact hneg (Option.some.inj e).symm)), xs, [], rfl, World.ownsRow_nil _ _ _ _, rfl, ?_⟩, ?_, ?_, hB.ge⟩, O⟩
  · rw [hbk]
    refine h3.more F (fun x hx => ?_) (fun x hx => ?_)
    · rcases List.mem_cons.1 hx with rfl | hx
      · rcases hat with h | h
        · exact .inl (h ▸ List.mem_cons_self)
        · exact .inr h
      · exact .inl (List.mem_cons_of_mem _ hx)
    · have hxl := (hblt x hx).2
      have x1 : x ≠ g := fun e => (List.nodup_cons.1 nd).1 (e ▸ hx)
      have x2 : x ≠ gg := fun e => gnr (e ▸ hx)
      have x3 : x ≠ b := fun e => by
        obtain ⟨y, hy, hk⟩ := mem_blks.1 hx
        have hh : ∀ {st : Os} {xs : List Value}, OpenX w w0.heap.size (g :: blks st) st xs → True := fun _ => trivial
        subst e
        have : ∀ (st' : Os) (xs' : List Value) (L : List Nat), OpenX w w0.heap.size L st' xs' → ∀ y ∈ st', y.2.2.ownBlock = some x → ∃ cur, w.heap[x]? = some (.cells cur 27 (0, 0)) := by
          intro st'
          induction st' with
          | nil => intro _ _ _ y hy; cases hy
          | cons a r ih =>
            intro xs' L h y hy hk
            obtain ⟨ys, zs, _, h2, _, h4⟩ := h
            rcases List.mem_cons.1 hy with rfl | hy
            · rcases h2.2 with ⟨h', _⟩ | ⟨g', cap', cur, h', _, hh, _⟩
              · rw [h'] at hk; cases hk
              · rw [h'] at hk; cases hk; exact ⟨cur, hh⟩
            · exact ih _ _ h4 y hy hk
        obtain ⟨cur', hc'⟩ := this st xs _ h3 y hy hk
        rw [h1] at hc'; cases hc'
      rw [s3.block x (Nat.lt_of_lt_of_le hxl (Nat.le_trans hbl.size (Nat.le_trans hgrow.size s2.size))) (fun e => x3 (Option.some.inj e)), s2.block x (Nat.lt_of_lt_of_le hxl (Nat.le_trans hbl.size hgrow.size)) (fun e => x2 (Option.some.inj e)),
        hgrow.block x (Nat.lt_of_lt_of_le hxl hbl.size) (fun e => x1 (Option.some.inj e)), hbl.block hxl]
  · rw [hbk]; exact List.nodup_cons.2 ⟨gnr, (List.nodup_cons.1 nd).2⟩
  · exact ((((hB.bl.trans hbl).grown hgrow (fun x hx => by cases hx; exact hlt.1)).grown s2 (fun x hx => by cases hx; exact gge)).grown s3 (fun x hx => by cases hx; exact hB.ge))

end Go.Proofs.YtjocbifjmchbcaaGreatDoor
/- The matcher's pair. -/
namespace Go.Proofs.YtjocbifjmchbcaaGreatDoor
open Go.RowKit

theorem On.fresh {eb : Nat} {a b : World} (h : On eb a b) (p : Addr) (hp : a.heap.size ≤ p.block) (v : Value) : On eb a (b.setCell p v) :=
  ⟨⟨h.out.os, h.out.tape, h.out.output, by rw [World.size_setCell]; exact h.out.size, fun i hi hn => (Below.heap_setCell b p v i (by omega)).trans (h.out.block i hi hn)⟩⟩
theorem On.freshs {eb : Nat} {a b : World} (h : On eb a b) (k o : Nat) (hp : a.heap.size ≤ k) (vs : List Value) : On eb a (b.setCells k o vs) :=
  ⟨⟨(grownBy_setCells b k o vs).os.trans h.out.os, (grownBy_setCells b k o vs).tape.trans h.out.tape, (grownBy_setCells b k o vs).output.trans h.out.output, Nat.le_trans h.out.size (grownBy_setCells b k o vs).size, fun i hi hn => ((grownBy_setCells b k o vs).block i (Nat.lt_of_lt_of_le hi h.out.size) (by simp; omega)).trans (h.out.block i hi hn)⟩⟩
theorem On.kept {eb : Nat} {a b : World} (h : On eb a b) {i : Nat} {o : Obj} (hi : a.heap[i]? = some o) (hn : i ≠ eb) : b.heap[i]? = some o := (h.out.block i (heap_lt hi) (fun e => hn (Option.some.inj e))).trans hi
theorem On.bl {eb : Nat} {a b c : World} (h : On eb a b) (k : Bl b c) : On eb a c := h.trans (On.of_bl k)
/-- What is left behind those between. -/
def goneL (g left : List Nat) : List Nat := g.foldl (fun e x => e.set x 0) left
theorem goneL_len (g left : List Nat) : (goneL g left).length = left.length := clear_len g left

theorem set_zero (l : List Nat) (i : Nat) (h : l.getD i 0 = 0) : l.set i 0 = l := by
  apply List.ext_getElem?
  intro j
  rw [List.getElem?_set]
  by_cases e : i = j
  · subst e
    rw [if_pos rfl]
    by_cases h2 : i < l.length
    · rw [if_pos h2]
      rw [List.getD_eq_getElem?_getD, List.getElem?_eq_getElem h2] at h
      rw [List.getElem?_eq_getElem h2]
      exact congrArg some h.symm
    · rw [if_neg h2, List.getElem?_eq_none (by omega)]
  · rw [if_neg e]
set_option maxRecDepth 100000 in
set_option maxHeartbeats 8000000 in
theorem pair_any (w : World) (mb eb qb n ec lb lo lc : Nat) (l : List Rn) (E : List Ee) (k j N : Nat) (g t left : List Nat) (hm : Mx w mb eb qb n ec (.slice (some ⟨lb, lo, none⟩) n lc)) (hE : Ent w eb E) (hR : Rns w lb lo lc l) (hl : l.length = n) (hec : n ≤ ec) (hbig : n ≤ 1000000) (hk : k < n)
    (hL : Lk n E k (g ++ j :: t) left) (hN : sizeE l E j k = (N : Int)) (hNj : N ≤ left.getD j 0) (hNk : N ≤ left.getD k 0) (hlb : ∀ i, left.getD i 0 ≤ 1000000) :
    Calls Tryz.prog 133 #[.pointer (some ⟨mb, 0, none⟩), .int .i64 (j : Int), .int .i64 (k : Int)] w fun e w' => e = .returned (.agg #[.int .i64 (j : Int), .int .i64 (k : Int), .int .i64 (N : Int)]) ∧ On eb w w' ∧
      ∃ E', Ent w' eb E' ∧ Lk n E' k (if (((goneL g left).set j (left.getD j 0 - N)).set k (left.getD k 0 - N)).getD j 0 == 0 then t else j :: t) (((goneL g left).set j (left.getD j 0 - N)).set k (left.getD k 0 - N)) := by
  have hjk : j < k := hL.lt j (by simp)
  have hjg : j ∉ g := by
    intro h
    have := List.pairwise_append.1 hL.desc
    have := this.2.2 j h j (by simp)
    omega
  have hkg : k ∉ g := by intro h; have := hL.lt k (by simp [h]); omega
  have hSZ := fun W (a : Mx W mb eb qb n ec (.slice (some ⟨lb, lo, none⟩) n lc)) (b : Ent W eb E) (c : Rns W lb lo lc l) => size_any W mb eb qb n ec lb lo lc l E j k a b c hl hL.len hk (by omega)
  have hG := Lib.hid (show goneL g left = goneL g left from rfl)
  obtain ⟨LF, hLF⟩ : ∃ LF, goneL g left = LF := ⟨_, rfl⟩
  rw [hLF]
  have hLFj : LF.getD j 0 = left.getD j 0 := by rw [← hLF]; unfold goneL; rw [clear_getD, if_neg hjg]
  have hLFk : LF.getD k 0 = left.getD k 0 := by rw [← hLF]; unfold goneL; rw [clear_getD, if_neg hkg]
  have hLFl : LF.length = n := by rw [← hLF, goneL_len]; exact hL.llen
  have HLF := Lib.hid hLF
  clear hG hLF
  obtain ⟨LF2, hLF2⟩ : ∃ LF2, (LF.set j (left.getD j 0 - N)).set k (left.getD k 0 - N) = LF2 := ⟨_, rfl⟩
  rw [hLF2]
  have h2j : LF2.getD j 0 = left.getD j 0 - N := by
    rw [← hLF2, getD_set' _ _ _ _ (by simp [hLFl]; exact hk), if_neg (by omega), getD_set' _ _ _ _ (by omega), if_pos rfl]
  have HLF2 := Lib.hid hLF2
  clear hLF2
  obtain ⟨ST, hST⟩ : ∃ ST, (if LF2.getD j 0 == 0 then t else j :: t) = ST := ⟨_, rfl⟩
  rw [hST]
  have HST := Lib.hid hST
  clear hST
  have i0 : (0 : Int) ≤ (k : Int) := Int.natCast_nonneg _
  have i1 : (k : Int) < (n : Int) := by omega
  have i2 : (0 : Int) ≤ (j : Int) := Int.natCast_nonneg _
  have i3 : (j : Int) < (n : Int) := by omega
  have hne := hm.ne hE
  go_enter Tryz.func133, Tryz.ntmps133
  go_wp2_with fail
  obtain ⟨rb, hrb⟩ : ∃ rb, w.heap.size = rb := ⟨_, rfl⟩
  obtain ⟨w1, hw1⟩ : ∃ w1, w.alloc (.cells #[.int .i64 0, .int .i64 0, .int .i64 0] 119) = w1 := ⟨_, rfl⟩
  have hb1 : Bl w w1 := by rw [← hw1]; exact (Bl.refl w).alloc _
  have hrb1 : w1.heap[rb]? = some (.cells #[.int .i64 0, .int .i64 0, .int .i64 0] 119 (0, 0)) := by rw [← hw1, ← hrb]; exact heap_alloc_new w _
  have heb := hE.lt
  rw [hrb] at heb
  rw [hrb, hw1]
  clear hw1
  have hrne : rb ≠ eb := by omega
  refine (hSZ w1 (hm.bl hb1) (hE.bl hb1) (hR.bl hb1)).mono ?_
  rintro e w2 ⟨rfl, hb2⟩
  rw [hN]
  dsimp only
  have hb2 := hb1.trans hb2
  have hrb2 : w2.heap[rb]? = some (.cells #[.int .i64 0, .int .i64 0, .int .i64 0] 119 (0, 0)) := by rw [‹Bl w1 w2›.block (heap_lt hrb1)]; exact hrb1
  clear hSZ
  go_wp2_with fail
  go_loopw [] (fun wr => ∃ (Er : List Ee) (g' lf : List Nat), Ent wr eb Er ∧ On eb w wr ∧ Lk n Er k (g' ++ j :: t) lf ∧ Hid (goneL g' lf = LF) ∧ wr.heap[rb]? = some (.cells #[.int .i64 0, .int .i64 0, .int .i64 0] 119 (0, 0))) (fun wr => (intOf ((wr.cell? ⟨eb, k * 3 + 1, none⟩).getD undef) + 1).toNat)
  case atStart => exact ⟨E, g, left, hE.bl hb2, On.of_bl hb2, hL, HLF, hrb2⟩
  case round =>
    obtain ⟨Er, g', lf, hEr, hOr, hLr, hgr, hrr⟩ := hrel
    obtain ⟨_, c1, _⟩ := (hm.on hE hOr).cells
    obtain ⟨x, hx⟩ : ∃ x, Er[k]? = some x := ⟨_, List.getElem?_eq_getElem (by rw [hLr.len]; exact hk)⟩
    obtain ⟨_, d1, _⟩ := hEr.cells hx
    have hxp := hLr.prev hk
    rw [getD_of hx] at hxp
    cases g' with
    | nil =>
      have hxj : x.p = (j : Int) := hxp
      rw [hxj] at d1
      have hLn : Lk n Er k (j :: t) LF := by have := hgr.out; unfold goneL at this; simp at this; rw [← this]; exact hLr
      go_wp2_with fail
      obtain ⟨w3, hw3⟩ : ∃ w3, wr.alloc (.cells #[.int .i64 (j : Int), .int .i64 (k : Int)] 3) = w3 := ⟨_, rfl⟩
      obtain ⟨sb, hsb⟩ : ∃ sb, wr.heap.size = sb := ⟨_, rfl⟩
      have hb3 : Bl wr w3 := by rw [← hw3]; exact (Bl.refl wr).alloc _
      have hs3 : w3.heap[sb]? = some (.cells #[.int .i64 (j : Int), .int .i64 (k : Int)] 3 (0, 0)) := by rw [← hw3, ← hsb]; exact heap_alloc_new wr _
      have hr3 : w3.heap[rb]? = some (.cells #[.int .i64 0, .int .i64 0, .int .i64 0] 119 (0, 0)) := by rw [hb3.block (heap_lt hrr)]; exact hrr
      have hsne : sb ≠ eb := by have := hEr.lt; omega
      have hO3 := hOr.bl hb3
      have hE3 := hEr.bl hb3
      rw [hw3, hsb]
      clear hw3 hsb hEr hOr hrr
      go_loopw [38] (fun v wq => ∃ (q : Nat) (Er : List Ee) (lf : List Nat), q ≤ 2 ∧ v = .int .i64 (q : Int) ∧ Ent wq eb Er ∧ On eb w wq ∧ Lk n Er k (j :: t) lf ∧ Hid ((if q = 0 then LF else if q = 1 then LF.set j (left.getD j 0 - N) else LF2) = lf) ∧ wq.heap[rb]? = some (.cells #[.int .i64 0, .int .i64 0, .int .i64 0] 119 (0, 0)) ∧ wq.heap[sb]? = some (.cells #[.int .i64 (j : Int), .int .i64 (k : Int)] 3 (0, 0))) (fun v _ => 2 - (intOf v).toNat)
      case atStart => exact ⟨0, Er, LF, by omega, rfl, hE3, hO3, hLn, Lib.hid rfl, hr3, hs3⟩
      case round =>
        obtain ⟨q, E4, lf4, hq, rfl, hE4, hO4, hL4, hlf4, hr4, hs4⟩ := hrel
        obtain ⟨_, c4, _⟩ := (hm.on hE hO4).cells
        have s0 : wr.cell? ⟨sb, 0, none⟩ = some (.int .i64 (j : Int)) := by rw [Lib.cell_of_heap hs4]; rfl
        have s1 : wr.cell? ⟨sb, 1, none⟩ = some (.int .i64 (k : Int)) := by rw [Lib.cell_of_heap hs4]; rfl
        have fe := fun o => hE4.free o
        match q, hq, hlf4 with
        | 0, _, hlf4 =>
          obtain ⟨x4, hx4⟩ : ∃ x, E4[j]? = some x := ⟨_, List.getElem?_eq_getElem (by rw [hL4.len]; omega)⟩
          obtain ⟨d4, _, _⟩ := hE4.cells hx4
          have hl4 : x4.l = ((left.getD j 0 : Nat) : Int) := by rw [hL4.lf j x4 hx4, ← hlf4.out, if_pos rfl, hLFj]
          rw [hl4] at d4
          have fz := fe (j * 3)
          have hbd := hlb j
          have hE5 := hE4.setL hx4 (((left.getD j 0 : Nat) : Int) - (N : Int))
          have hL5 := hL4.setL j (left.getD j 0 - N) (by omega)
          rw [show (((left.getD j 0 - N : Nat)) : Int) = ((left.getD j 0 : Nat) : Int) - (N : Int) by omega] at hL5
          have hO5 := hO4.trans (On.set eb (j * 3) wr (.int .i64 (((left.getD j 0 : Nat) : Int) - (N : Int))))
          have hr5 := (On.set eb (j * 3) wr (.int .i64 (((left.getD j 0 : Nat) : Int) - (N : Int)))).kept hr4 hrne
          have hs5 := (On.set eb (j * 3) wr (.int .i64 (((left.getD j 0 : Nat) : Int) - (N : Int)))).kept hs4 hsne
          have hlf5 := Lib.hid (show (if (1 : Nat) = 0 then LF else if (1 : Nat) = 1 then LF.set j (left.getD j 0 - N) else LF2) = lf4.set j (left.getD j 0 - N) by rw [← hlf4.out]; rfl)
          obtain ⟨lj, hlj⟩ : ∃ lj, left.getD j 0 = lj := ⟨_, rfl⟩
          rw [hlj] at d4 hE5 hL5 hO5 hr5 hs5 hlf5 hNj hbd
          have i5 : (0 : Int) ≤ (lj : Int) := Int.natCast_nonneg _
          have i6 : (N : Int) ≤ (lj : Int) := by omega
          have i7 : (lj : Int) ≤ 1000000 := by omega
          clear hlf4
          go_wp2_with fail
          go_roundw
          case rel => exact ⟨1, _, _, by omega, rfl, hE5, hO5, hL5, by rw [hlj]; exact hlf5, hr5, hs5⟩
          case measure => simp [intOf]
        | 1, _, hlf4 =>
          obtain ⟨x4, hx4⟩ : ∃ x, E4[k]? = some x := ⟨_, List.getElem?_eq_getElem (by rw [hL4.len]; omega)⟩
          obtain ⟨d4, _, _⟩ := hE4.cells hx4
          have hl4 : x4.l = ((left.getD k 0 : Nat) : Int) := by
            rw [hL4.lf k x4 hx4, ← hlf4.out, if_neg (by omega), if_pos rfl, getD_set' _ _ _ _ (by omega), if_neg (by omega), hLFk]
          rw [hl4] at d4
          have fz := fe (k * 3)
          have hbd := hlb k
          have hE5 := hE4.setL hx4 (((left.getD k 0 : Nat) : Int) - (N : Int))
          have hL5 := hL4.setL k (left.getD k 0 - N) (by omega)
          rw [show (((left.getD k 0 - N : Nat)) : Int) = ((left.getD k 0 : Nat) : Int) - (N : Int) by omega] at hL5
          have hO5 := hO4.trans (On.set eb (k * 3) wr (.int .i64 (((left.getD k 0 : Nat) : Int) - (N : Int))))
          have hr5 := (On.set eb (k * 3) wr (.int .i64 (((left.getD k 0 : Nat) : Int) - (N : Int)))).kept hr4 hrne
          have hs5 := (On.set eb (k * 3) wr (.int .i64 (((left.getD k 0 : Nat) : Int) - (N : Int)))).kept hs4 hsne
          have hlf5 := Lib.hid (show (if (2 : Nat) = 0 then LF else if (2 : Nat) = 1 then LF.set j (left.getD j 0 - N) else LF2) = lf4.set k (left.getD k 0 - N) by rw [← hlf4.out]; exact HLF2.out.symm)
          obtain ⟨lk, hlk⟩ : ∃ lk, left.getD k 0 = lk := ⟨_, rfl⟩
          rw [hlk] at d4 hE5 hL5 hO5 hr5 hs5 hlf5 hNk hbd
          have i5 : (0 : Int) ≤ (lk : Int) := Int.natCast_nonneg _
          have i6 : (N : Int) ≤ (lk : Int) := by omega
          have i7 : (lk : Int) ≤ 1000000 := by omega
          clear hlf4
          go_wp2_with fail
          go_roundw
          case rel => exact ⟨2, _, _, by omega, rfl, hE5, hO5, hL5, hlf5, hr5, hs5⟩
          case measure => simp [intOf]
        | 2, _, hlf4 =>
          obtain ⟨x4, hx4⟩ : ∃ x, E4[j]? = some x := ⟨_, List.getElem?_eq_getElem (by rw [hL4.len]; omega)⟩
          obtain ⟨d4, _, _⟩ := hE4.cells hx4
          obtain rfl : LF2 = lf4 := hlf4.out
          have hl4 := hL4.lf j x4 hx4
          rw [hl4] at d4
          have hb4 := hL4.bd j x4 hx4
          have fr0 := Lib.frozen_of_heap hr4 0
          have fr1 := Lib.frozen_of_heap hr4 1
          have fr2 := Lib.frozen_of_heap hr4 2
          have r0 : wr.cell? ⟨rb, 0, none⟩ = some (.int .i64 0) := by rw [Lib.cell_of_heap hr4]; rfl
          have r1 : wr.cell? ⟨rb, 1, none⟩ = some (.int .i64 0) := by rw [Lib.cell_of_heap hr4]; rfl
          have r2 : wr.cell? ⟨rb, 2, none⟩ = some (.int .i64 0) := by rw [Lib.cell_of_heap hr4]; rfl
          have ewb : w.heap.size ≤ rb := by omega
          cases hz : (LF2.getD j 0 == 0) with
          | false =>
            have hS := HST.out
            rw [hz, if_neg (by simp)] at hS
            obtain ⟨v2, hv2⟩ : ∃ v2, LF2.getD j 0 = v2 := ⟨_, rfl⟩
            rw [hv2] at hz d4
            have hz1 : (v2 : Int) ≠ 0 := by have : v2 ≠ 0 := by simpa using hz
                                            omega
            have hz2 : ((v2 : Int) == 0) = false := by simpa using hz1
            go_wp2_with fail
            have hOf := (((hO4.fresh ⟨rb, 0, none⟩ ewb (.int .i64 (j : Int))).fresh ⟨rb, 1, none⟩ ewb (.int .i64 (k : Int))).fresh ⟨rb, 2, none⟩ ewb (.int .i64 (N : Int)))
            have hEf := hE4.same (w' := ((wr.setCell ⟨rb, 0, none⟩ (.int .i64 (j : Int))).setCell ⟨rb, 1, none⟩ (.int .i64 (k : Int))).setCell ⟨rb, 2, none⟩ (.int .i64 (N : Int))) (by rw [Below.heap_setCell _ _ _ _ (by exact fun e => hrne e.symm), Below.heap_setCell _ _ _ _ (by exact fun e => hrne e.symm), Below.heap_setCell _ _ _ _ (by exact fun e => hrne e.symm)])
            refine bodyPost_ret (v := .agg #[.int .i64 (j : Int), .int .i64 (k : Int), .int .i64 (N : Int)]) ?_ rfl ⟨rfl, hOf, _, hEf, ?_⟩
            · simp [results, Tryz.results133, go_sem, r0, r1, r2]
            · rw [← hS]; exact hL4
          | true =>
            have hS := HST.out
            rw [hz, if_pos rfl] at hS
            have hz0 : LF2.getD j 0 = 0 := by simpa using hz
            rw [hz0] at d4
            have d5 : wr.cell? ⟨eb, j * 3, none⟩ = some (.int .i64 0) := d4
            clear d4
            go_wp2_with fail
            refine (drop_any wr mb eb qb n ec _ E4 j x4 (hm.on hE hO4) hE4 hL4.len hec hbig hx4 hb4.1 hb4.2.1 hb4.2.2.1 hb4.2.2.2).mono ?_
            rintro e w6 ⟨rfl, hE6, hO6⟩
            dsimp only
            have hL6 := hL4.dropHead hk
            have h0 : LF2.set j 0 = LF2 := by
              exact set_zero _ _ hz0
            rw [h0] at hL6
            have hr6 := hO6.kept hr4 hrne
            have fr60 := Lib.frozen_of_heap hr6 0
            have fr61 := Lib.frozen_of_heap hr6 1
            have fr62 := Lib.frozen_of_heap hr6 2
            have r60 : w6.cell? ⟨rb, 0, none⟩ = some (.int .i64 0) := by rw [Lib.cell_of_heap hr6]; rfl
            have r61 : w6.cell? ⟨rb, 1, none⟩ = some (.int .i64 0) := by rw [Lib.cell_of_heap hr6]; rfl
            have r62 : w6.cell? ⟨rb, 2, none⟩ = some (.int .i64 0) := by rw [Lib.cell_of_heap hr6]; rfl
            go_wp2_with fail
            have hOf := ((((hO4.trans hO6).fresh ⟨rb, 0, none⟩ ewb (.int .i64 (j : Int))).fresh ⟨rb, 1, none⟩ ewb (.int .i64 (k : Int))).fresh ⟨rb, 2, none⟩ ewb (.int .i64 (N : Int)))
            have hEf := hE6.same (w' := ((w6.setCell ⟨rb, 0, none⟩ (.int .i64 (j : Int))).setCell ⟨rb, 1, none⟩ (.int .i64 (k : Int))).setCell ⟨rb, 2, none⟩ (.int .i64 (N : Int))) (by rw [Below.heap_setCell _ _ _ _ (by exact fun e => hrne e.symm), Below.heap_setCell _ _ _ _ (by exact fun e => hrne e.symm), Below.heap_setCell _ _ _ _ (by exact fun e => hrne e.symm)])
            refine bodyPost_ret (v := .agg #[.int .i64 (j : Int), .int .i64 (k : Int), .int .i64 (N : Int)]) ?_ rfl ⟨rfl, hOf, _, hEf, ?_⟩
            · simp [results, Tryz.results133, go_sem, r60, r61, r62]
            · rw [← hS]; exact hL6
    | cons a g' =>
      have hxa : x.p = (a : Int) := hxp
      rw [hxa] at d1
      have haj : j < a := by
        have := (List.pairwise_cons.1 hLr.desc).1 j (by simp)
        omega
      have hak : a < k := hLr.lt a (by simp)
      have i4 : ((a : Int) != (j : Int)) = true := by simp; omega
      go_wp2_with fail
      obtain ⟨y, hy⟩ : ∃ y, Er[a]? = some y := ⟨_, List.getElem?_eq_getElem (by rw [hLr.len]; omega)⟩
      have hyb := hLr.bd a y hy
      refine (drop_any wr mb eb qb n ec _ Er a y (hm.on hE hOr) hEr hLr.len hec hbig hy hyb.1 hyb.2.1 hyb.2.2.1 hyb.2.2.2).mono ?_
      rintro e w3 ⟨rfl, hE3, hO3⟩
      dsimp only
      have hL3 := hLr.dropHead hk
      have hG3 := Lib.hid (show goneL g' (lf.set a 0) = LF from hgr.out)
      have hr3 := hO3.kept hrr hrne
      have hd1 := Lib.hid d1
      have hmeas := Lib.hid (show (intOf ((w3.cell? ⟨eb, k * 3 + 1, none⟩).getD undef) + 1).toNat < (intOf ((wr.cell? ⟨eb, k * 3 + 1, none⟩).getD undef) + 1).toNat by
        obtain ⟨z, hz⟩ : ∃ z, (dropE Er a)[k]? = some z := ⟨_, List.getElem?_eq_getElem (by rw [dropE_len, hLr.len]; exact hk)⟩
        have hz1 := (hE3.cells hz).2.1
        have hz2 := hL3.prev hk
        rw [getD_of hz] at hz2
        have hz3 : z.p < a := by
          rw [hz2]
          exact headI_lt (List.pairwise_cons.1 hLr.desc).1
        rw [hz1, d1]
        simp [intOf]; omega)
      go_wp2_with fail
      go_roundw
      case rel => exact ⟨_, g', _, hE3, hOr.trans hO3, hL3, hG3, hr3⟩
      case measure => exact hmeas.out
end Go.Proofs.YtjocbifjmchbcaaGreatDoor
/- The matcher's rounds, and where it begins: plain facts. -/
namespace Go.Proofs.YtjocbifjmchbcaaGreatDoor
open Go.RowKit

theorem roundR_skip {l : List Rn} {m : Ms} (hk : m.k < l.length) (h : (!(l.getD m.k default).cl || m.left.getD m.k 0 == 0) = true) : roundR l m = some { m with k := m.k + 1, stk := m.k :: m.stk } := by
  unfold roundR
  rw [if_pos hk]
  dsimp only
  rw [if_pos h]
theorem takeWhile_ne (g : List Nat) (j : Nat) (t : List Nat) (h : j ∉ g) : (g ++ j :: t).takeWhile (· != j) = g := by
  rw [List.takeWhile_append_of_pos]
  · simp
  · intro x hx
    simp
    intro e; subst e; exact h hx
theorem goneL_getD (g left : List Nat) (j : Nat) (h : j ∉ g) : (goneL g left).getD j 0 = left.getD j 0 := by unfold goneL; rw [clear_getD, if_neg h]
theorem roundR_pair {l : List Rn} {m : Ms} (hk : m.k < l.length) (h : (!(l.getD m.k default).cl || m.left.getD m.k 0 == 0) = false) {j : Nat} {g t : List Nat} (hs : seekR l m m.stk = j :: t) (hg : m.stk = g ++ j :: t) (hj : j ∉ g) :
    roundR l m = some { m with
      stk := if (((goneL g m.left).set j (m.left.getD j 0 - sizeR l m j)).set m.k (m.left.getD m.k 0 - sizeR l m j)).getD j 0 == 0 then t else j :: t
      left := ((goneL g m.left).set j (m.left.getD j 0 - sizeR l m j)).set m.k (m.left.getD m.k 0 - sizeR l m j)
      out := m.out ++ [(j, m.k, sizeR l m j)] } := by
  unfold roundR
  rw [if_pos hk]
  dsimp only
  rw [if_neg (by rw [h]; simp), hs]
  dsimp only
  have e1 : m.stk.takeWhile (· != j) = g := by rw [hg]; exact takeWhile_ne g j t hj
  have e2 : g.foldl (fun e x => e.set x 0) m.left = goneL g m.left := rfl
  rw [e1, e2, goneL_getD g m.left j hj]
theorem roundR_open {l : List Rn} {m : Ms} (hk : m.k < l.length) (h : (!(l.getD m.k default).cl || m.left.getD m.k 0 == 0) = false) (hs : seekR l m m.stk = []) (ho : (l.getD m.k default).o = true) :
    roundR l m = some { m with k := m.k + 1, stk := m.k :: m.stk, bot := (keyR l m, headI m.stk) :: m.bot } := by
  unfold roundR
  rw [if_pos hk]
  dsimp only
  rw [if_neg (by rw [h]; simp), hs]
  dsimp only
  rw [if_pos ho]
  rfl
theorem roundR_drop {l : List Rn} {m : Ms} (hk : m.k < l.length) (h : (!(l.getD m.k default).cl || m.left.getD m.k 0 == 0) = false) (hs : seekR l m m.stk = []) (ho : (l.getD m.k default).o = false) :
    roundR l m = some { m with k := m.k + 1, left := m.left.set m.k 0, bot := (keyR l m, headI m.stk) :: m.bot } := by
  unfold roundR
  rw [if_pos hk]
  dsimp only
  rw [if_neg (by rw [h]; simp), hs]
  dsimp only
  rw [if_neg (by rw [ho]; simp)]
  rfl
/-- Entries ahead of the first round. -/
def e0 (l : List Rn) (i : Nat) : Ee := ⟨((l.getD i default).n : Int), (i : Int) - 1, (i : Int) + 1⟩
def eCells (E : List Ee) : List Value := E.flatMap fun e => [.int .i64 e.l, .int .i64 e.p, .int .i64 e.n]
theorem eCells_snoc (E : List Ee) (e : Ee) : eCells (E ++ [e]) = eCells E ++ [.int .i64 e.l, .int .i64 e.p, .int .i64 e.n] := by simp [eCells]
theorem eCells_get : ∀ (E : List Ee) (i : Nat) (e : Ee), E[i]? = some e → (eCells E)[i * 3]? = some (.int .i64 e.l) ∧ (eCells E)[i * 3 + 1]? = some (.int .i64 e.p) ∧ (eCells E)[i * 3 + 2]? = some (.int .i64 e.n)
  | [], i, e, h => by cases h
  | a :: t, 0, e, h => by cases h; exact ⟨rfl, rfl, rfl⟩
  | a :: t, i + 1, e, h => by
    have ih := eCells_get t i e (by simpa using h)
    have e1 : eCells (a :: t) = [.int .i64 a.l, .int .i64 a.p, .int .i64 a.n] ++ eCells t := rfl
    rw [e1]
    refine ⟨?_, ?_, ?_⟩
    · rw [List.getElem?_append_right (by simp; omega)]; have : (i + 1) * 3 - [Value.int .i64 a.l, .int .i64 a.p, .int .i64 a.n].length = i * 3 := by simp; omega
      rw [this]; exact ih.1
    · rw [List.getElem?_append_right (by simp; omega)]; have : (i + 1) * 3 + 1 - [Value.int .i64 a.l, .int .i64 a.p, .int .i64 a.n].length = i * 3 + 1 := by simp; omega
      rw [this]; exact ih.2.1
    · rw [List.getElem?_append_right (by simp; omega)]; have : (i + 1) * 3 + 2 - [Value.int .i64 a.l, .int .i64 a.p, .int .i64 a.n].length = i * 3 + 2 := by simp; omega
      rw [this]; exact ih.2.2
def firstE (l : List Rn) (q : Nat) : List Ee := (List.range q).map (e0 l)
theorem firstE_succ (l : List Rn) (q : Nat) : firstE l (q + 1) = firstE l q ++ [e0 l q] := by simp [firstE, List.range_succ]
theorem firstE_get {l : List Rn} {q i : Nat} {e : Ee} (h : (firstE l q)[i]? = some e) : i < q ∧ e = e0 l i := by
  unfold firstE at h
  rw [List.getElem?_map] at h
  cases h2 : (List.range q)[i]? with
  | none => rw [h2] at h; cases h
  | some y =>
    rw [h2] at h
    have hlt := (List.getElem?_eq_some_iff.1 h2).1
    simp at hlt
    rw [List.getElem?_range hlt] at h2
    cases h2
    cases h
    exact ⟨hlt, rfl⟩
theorem Lk.first (l : List Rn) (hbig : ∀ r ∈ l, r.n ≤ 1000000) : Lk l.length (firstE l l.length) 0 [] (firstR l).left := by
  refine ⟨by simp [firstE], by simp [firstR], Nat.zero_le _, List.Pairwise.nil, by simp, trivial, fun i e _ he => ?_, fun i e he => ?_, fun i e he => ?_⟩
  · obtain ⟨h1, rfl⟩ := firstE_get he
    refine ⟨rfl, ?_⟩
    split
    · subst_vars; rfl
    · rfl
  · obtain ⟨h1, rfl⟩ := firstE_get he
    simp only [e0]
    omega
  · obtain ⟨h1, rfl⟩ := firstE_get he
    simp only [e0, firstR]
    have hr := hbig l[i] (List.getElem_mem h1)
    simp only [List.getD_eq_getElem?_getD, List.getElem?_map, List.getElem?_eq_getElem h1, Option.map_some, Option.getD_some]
    split
    · rename_i h; simp at h; omega
    · rfl
/-- Pairs as cells. -/
def pCells (p : List (Nat × Nat × Nat)) : List Value := p.flatMap fun x => [.int .i64 (x.1 : Int), .int .i64 (x.2.1 : Int), .int .i64 (x.2.2 : Int)]
theorem pCells_snoc (p : List (Nat × Nat × Nat)) (x : Nat × Nat × Nat) : pCells (p ++ [x]) = pCells p ++ [.int .i64 (x.1 : Int), .int .i64 (x.2.1 : Int), .int .i64 (x.2.2 : Int)] := by simp [pCells]
theorem pCells_len (p : List (Nat × Nat × Nat)) : (pCells p).length = p.length * 3 := by
  induction p with
  | nil => rfl
  | cons a t ih => simp [pCells] at ih ⊢; omega
theorem pCells_get : ∀ (E : List (Nat × Nat × Nat)) (i : Nat) (e : Nat × Nat × Nat), E[i]? = some e → (pCells E)[i * 3]? = some (.int .i64 (e.1 : Int)) ∧ (pCells E)[i * 3 + 1]? = some (.int .i64 (e.2.1 : Int)) ∧ (pCells E)[i * 3 + 2]? = some (.int .i64 (e.2.2 : Int))
  | [], i, e, h => by cases h
  | a :: t, 0, e, h => by cases h; exact ⟨rfl, rfl, rfl⟩
  | a :: t, i + 1, e, h => by
    have ih := pCells_get t i e (by simpa using h)
    have e1 : pCells (a :: t) = [.int .i64 (a.1 : Int), .int .i64 (a.2.1 : Int), .int .i64 (a.2.2 : Int)] ++ pCells t := rfl
    rw [e1]
    refine ⟨?_, ?_, ?_⟩
    · rw [List.getElem?_append_right (by simp; omega)]; have : (i + 1) * 3 - [Value.int .i64 (a.1 : Int), .int .i64 (a.2.1 : Int), .int .i64 (a.2.2 : Int)].length = i * 3 := by simp; omega
      rw [this]; exact ih.1
    · rw [List.getElem?_append_right (by simp; omega)]; have : (i + 1) * 3 + 1 - [Value.int .i64 (a.1 : Int), .int .i64 (a.2.1 : Int), .int .i64 (a.2.2 : Int)].length = i * 3 + 1 := by simp; omega
      rw [this]; exact ih.2.1
    · rw [List.getElem?_append_right (by simp; omega)]; have : (i + 1) * 3 + 2 - [Value.int .i64 (a.1 : Int), .int .i64 (a.2.1 : Int), .int .i64 (a.2.2 : Int)].length = i * 3 + 2 := by simp; omega
      rw [this]; exact ih.2.2
theorem infoEntry : (Tryz.prog.info? 179).map (fun i => (i.zero, i.size, i.bytes)) = some (some (.agg #[.int .i64 0, .int .i64 0, .int .i64 0]), 3, 24) := by kernel_rfl
theorem infoPair : (Tryz.prog.info? 119).map (fun i => (i.zero, i.size, i.bytes)) = some (some (.agg #[.int .i64 0, .int .i64 0, .int .i64 0]), 3, 24) := by kernel_rfl
/-- The entries, out of a row. -/
theorem Ent.of_row {w : World} {base eb n cap : Nat} {E : List Ee} (h : w.ownsRow base 179 3 (.slice (some ⟨eb, 0, none⟩) n cap) n (eCells E)) (hE : E.length = n) : Ent w eb E ∧ n ≤ cap := by
  rcases h.2 with ⟨h1, _⟩ | ⟨g, cap', cur, h1, hb, hg, hc, _, hs, ht⟩
  · cases h1
  · cases h1
    refine ⟨⟨⟨cur, hg, fun i e hi => ?_⟩⟩, hc⟩
    have hc := eCells_get E i e hi
    have hlt := (List.getElem?_eq_some_iff.1 hi).1
    rw [← ht] at hc
    simp only [List.getElem?_take] at hc
    rw [if_pos (by omega), if_pos (by omega), if_pos (by omega)] at hc
    simpa using hc
/-- Signs left, as they lie in memory. -/
def leftW (w : World) (eb n : Nat) : Nat := ((List.range n).map fun i => (intOf ((w.cell? ⟨eb, i * 3, none⟩).getD undef)).toNat).sum
theorem leftW_eq {w : World} {eb n k : Nat} {E : List Ee} {stk left : List Nat} (h : Ent w eb E) (hL : Lk n E k stk left) : leftW w eb n = left.sum := by
  unfold leftW
  congr 1
  apply List.ext_getElem?
  intro i
  rw [List.getElem?_map]
  by_cases hi : i < n
  · rw [List.getElem?_range hi]
    obtain ⟨e, he⟩ : ∃ e, E[i]? = some e := ⟨_, List.getElem?_eq_getElem (by rw [hL.len]; exact hi)⟩
    rw [Option.map_some, (h.cells he).1, hL.lf i e he, List.getD_eq_getElem?_getD]
    rw [List.getElem?_eq_getElem (by rw [hL.llen]; exact hi)]
    simp [intOf]
  · rw [List.getElem?_eq_none (by simp; omega), List.getElem?_eq_none (by rw [hL.llen]; omega)]; rfl
theorem next_plain {l : List Rn} {m m' : Ms} {f : Nat} (hi : MInv l m) (e : roundR l m = some m') (hd : (roundsR l f m).out = matchL l) (hmu : muR l m < f) (hom : m.out.length + muR l m ≤ muR l (firstR l)) (ho : m'.out.length ≤ m.out.length + 1) :
    MInv l m' ∧ ∃ f', (roundsR l f' m').out = matchL l ∧ muR l m' < f' ∧ m'.out.length + muR l m' ≤ muR l (firstR l) := by
  have hn := muR_next hi e
  obtain ⟨f', rfl⟩ : ∃ f', f = f' + 1 := ⟨f - 1, by omega⟩
  rw [roundsR_step f' e] at hd
  exact ⟨hi.next e, f', hd, by omega, by omega⟩
theorem sum_le_big (l : List Rn) (h : ∀ r ∈ l, r.n ≤ 1000000) : (l.map (·.n)).sum ≤ l.length * 1000000 := by
  induction l with
  | nil => simp
  | cons a t ih =>
    have h1 := h a List.mem_cons_self
    have h2 := ih (fun r hr => h r (List.mem_cons_of_mem _ hr))
    simp only [List.map_cons, List.sum_cons, List.length_cons]
    omega
theorem left_big {l : List Rn} {m : Ms} (hi : MInv l m) (h : ∀ r ∈ l, r.n ≤ 1000000) (i : Nat) : m.left.getD i 0 ≤ 1000000 := by
  by_cases hl : i < l.length
  · have h1 := hi.used i hl
    have h2 := h l[i] (List.getElem_mem hl)
    have h3 : l.getD i default = l[i] := getD_rn (List.getElem?_eq_getElem hl)
    rw [h3] at h1
    omega
  · rw [List.getD_eq_getElem?_getD, List.getElem?_eq_none (by rw [hi.len]; omega)]
    simp
end Go.Proofs.YtjocbifjmchbcaaGreatDoor
/- The matcher. -/
namespace Go.Proofs.YtjocbifjmchbcaaGreatDoor
open Go.RowKit

theorem new2 (w : World) (o p : Obj) : ((w.alloc o).alloc p).heap[w.heap.size + 1]? = some p := by
  have := heap_alloc_new (w.alloc o) p
  rwa [World.size_alloc] at this
/-- A row is no block of another kind. -/
theorem row_ne {w : World} {base : Nat} {e t : TypeId} {size n : Nat} {v : Value} {xs : List Value} (h : w.ownsRow base e size v n xs) {k : Nat} {cs : Array Value} {fz : Nat × Nat} (hk : w.heap[k]? = some (.cells cs t fz)) (ht : t ≠ e) : some k ≠ v.ownBlock := fun he => by
  rcases h.2 with ⟨rfl, _⟩ | ⟨g, cap, cur, rfl, _, hg, _⟩
  · cases he
  · cases he
    rw [hk] at hg
    cases hg
    exact ht rfl
theorem row_ne_map {w : World} {base : Nat} {e : TypeId} {size n : Nat} {v : Value} {xs : List Value} (h : w.ownsRow base e size v n xs) {k : Nat} (hk : ∃ es c, w.heap[k]? = some (.map es c)) : some k ≠ v.ownBlock := fun he => by
  obtain ⟨es, c, hk⟩ := hk
  rcases h.2 with ⟨rfl, _⟩ | ⟨g, cap, cur, rfl, _, hg, _⟩
  · cases he
  · cases he
    rw [hk] at hg
    cases hg
/-- The matcher with one more entry. -/
theorem add_entry {w wr w2 w3 : World} {qb q ec g cap : Nat} {eo : Option Addr} {l : List Rn} {r : Rn} {lv : Value} (hbw : Bl w wr) (hwq : w.heap.size ≤ qb) (hmr : wr.heap[qb + 1]? = some (.cells #[lv, .slice eo q ec, .map (some qb)] 177 (0, 0))) (hQr : Bot wr qb 0 (botI []))
    (hown : wr.ownsRow qb 179 3 (.slice eo q ec) q (eCells (firstE l q))) (hr : l[q]? = some r) (h2 : Bl wr w2)
    (hown3 : w3.ownsRow qb 179 3 (.slice (some ⟨g, 0, none⟩) (q + 1) cap) (q + 1) (eCells (firstE l q) ++ [.int .i64 (r.n : Int), .int .i64 ((q : Int) - 1), .int .i64 ((q : Int) + 1)])) (hg : w2.grownBy w3 (Value.slice eo q ec).ownBlock) :
    w3.cell? ⟨qb + 1, 1, none⟩ = some (.slice eo q ec) ∧ w3.frozen? ⟨qb + 1, 1, none⟩ = false ∧
      (Bl w (w3.setCell ⟨qb + 1, 1, none⟩ (.slice (some ⟨g, 0, none⟩) (q + 1) cap)) ∧ (w3.setCell ⟨qb + 1, 1, none⟩ (.slice (some ⟨g, 0, none⟩) (q + 1) cap)).heap[qb + 1]? = some (.cells #[lv, .slice (some ⟨g, 0, none⟩) (q + 1) cap, .map (some qb)] 177 (0, 0)) ∧
       Bot (w3.setCell ⟨qb + 1, 1, none⟩ (.slice (some ⟨g, 0, none⟩) (q + 1) cap)) qb 0 (botI []) ∧ (w3.setCell ⟨qb + 1, 1, none⟩ (.slice (some ⟨g, 0, none⟩) (q + 1) cap)).ownsRow qb 179 3 (.slice (some ⟨g, 0, none⟩) (q + 1) cap) (q + 1) (eCells (firstE l (q + 1)))) := by
  have hne := row_ne hown hmr (by decide)
  have hm2 : w2.heap[qb + 1]? = some (.cells #[lv, .slice eo q ec, .map (some qb)] 177 (0, 0)) := (h2.block (heap_lt hmr)).trans hmr
  have hm3 : w3.heap[qb + 1]? = some (.cells #[lv, .slice eo q ec, .map (some qb)] 177 (0, 0)) := (hg.block (qb + 1) (heap_lt hm2) hne).trans hm2
  have hQ2 := hQr.bl h2
  have hQ3 := hQ2.same hg (row_ne_map hown hQr.isMap)
  have hb3 : Bl w w3 := (hbw.trans h2).grown hg (fun b hb => Nat.le_trans hwq (hown.lt b hb).1)
  have hg3 : w3.grownBy (w3.setCell ⟨qb + 1, 1, none⟩ (.slice (some ⟨g, 0, none⟩) (q + 1) cap)) (some (qb + 1)) := grownBy_setCell w3 _ _
  refine ⟨by rw [Lib.cell_of_heap hm3]; rfl, Lib.frozen_of_heap hm3 1, hb3.grown hg3 (fun b hb => by cases hb; omega), ?_, hQ3.same hg3 (by simp), ?_⟩
  · simp [World.setCell, Array.getElem?_modify, hm3]
  · rw [firstE_succ, eCells_snoc]
    have e1 : (e0 l q).l = (r.n : Int) := by show ((l.getD q default).n : Int) = _; rw [getD_rn hr]
    rw [e1]
    refine ownsRow_same hown3 (fun x hx => Below.heap_setCell _ _ _ _ ?_)
    have := row_ne hown3 hm3 (by decide)
    intro e
    rw [hx] at this
    exact this (by rw [e])
/-- The matcher at work. -/
structure MM (w wr : World) (qb eb ec n : Nat) (lv : Value) (l : List Rn) (m : Ms) (f cnt : Nat) (E : List Ee) (oo : Option Addr) (oc : Nat) : Prop where
  bl : Bl w wr
  mx : Mx wr (qb + 1) eb qb n ec lv
  en : Ent wr eb E
  lk : Lk n E m.k m.stk m.left
  inv : MInv l m
  bo : Bot wr qb cnt (botI m.bot)
  cn : cnt ≤ m.k
  lo : ∀ x ∈ m.bot, -1 ≤ x.2
  ow : wr.ownsRow w.heap.size 119 3 (.slice oo m.out.length oc) m.out.length (pCells m.out)
  done : (roundsR l f m).out = matchL l
  mu : muR l m < f
  om : m.out.length + muR l m ≤ muR l (firstR l)
/-- All but a row of the call's own is as it was. -/
theorem mm_row {w5 w6 w7 : World} {qb eb ec n cnt base n' : Nat} {lv v : Value} {E : List Ee} {bot : List (Kx × Int)} {xs : List Value} (hm : Mx w5 (qb + 1) eb qb n ec lv) (hE : Ent w5 eb E) (hQ : Bot w5 qb cnt bot) (h6 : Bl w5 w6)
    (hr : w5.ownsRow base 119 3 v n' xs) (hg : w6.grownBy w7 v.ownBlock) : Mx w7 (qb + 1) eb qb n ec lv ∧ Ent w7 eb E ∧ Bot w7 qb cnt bot := by
  have a1 := row_ne hr hm.out (by decide)
  obtain ⟨cur, hcur, _⟩ := hE.ex
  have a2 := row_ne hr hcur (by decide)
  have a3 := row_ne_map hr hQ.isMap
  exact ⟨(hm.bl h6).same (hg.block _ (heap_lt (hm.bl h6).out) a1), (hE.bl h6).same (hg.block _ (hE.bl h6).lt a2), (hQ.bl h6).same hg a3⟩
set_option maxRecDepth 100000 in
set_option maxHeartbeats 16000000 in
theorem match_any (w : World) (lb lo lc n : Nat) (l : List Rn) (hR : Rns w lb lo lc l) (hl : l.length = n) (hn0 : 0 < n) (hn1 : n ≤ 100000) (hbig : ∀ r ∈ l, r.n ≤ 1000000) :
    Calls Tryz.prog 82 #[.slice (some ⟨lb, lo, none⟩) n lc] w fun e w' => ∃ ov, e = .returned ov ∧ w'.ownsRow w.heap.size 119 3 ov (matchL l).length (pCells (matchL l)) ∧ Bl w w' := by
  obtain ⟨ie, hie, hiz, his, hib⟩ := info_parts infoEntry
  obtain ⟨ip, hip, hpz, hps, hpb⟩ := info_parts infoPair
  have hmm := @run_makeMap Tryz.prog
  go_enter Tryz.func82, Tryz.ntmps82
  go_wp2_with fail
  obtain ⟨w1, hw1⟩ : ∃ w1, (w.alloc (.map #[] 0)).alloc (.cells #[.slice (some ⟨lb, lo, none⟩) n lc, .slice none 0 0, .map (some w.heap.size)] 177) = w1 := ⟨_, rfl⟩
  obtain ⟨qb, hqb⟩ : ∃ qb, w.heap.size = qb := ⟨_, rfl⟩
  have hb1 : Bl w w1 := by rw [← hw1]; exact ((Bl.refl w).alloc _).alloc _
  have hm1 : w1.heap[qb + 1]? = some (.cells #[.slice (some ⟨lb, lo, none⟩) n lc, .slice none 0 0, .map (some qb)] 177 (0, 0)) := by
    rw [← hw1, ← hqb]; have := heap_alloc_new (w.alloc (.map #[] 0)) (.cells #[.slice (some ⟨lb, lo, none⟩) n lc, .slice none 0 0, .map (some w.heap.size)] 177); rwa [World.size_alloc] at this
  have hQ1 : Bot w1 qb 0 (botI []) := by
    rw [← hw1, ← hqb]; exact (Bot.new w).bl ((Bl.refl _).alloc _)
  rw [hqb]
  simp only [hqb] at hw1
  rw [hw1]
  clear hw1
  go_loopw [16] (fun v wr => ∃ (q : Nat) (ev : Value), q ≤ n ∧ v = .int .i64 (q : Int) ∧ Bl w wr ∧ wr.heap[qb + 1]? = some (.cells #[.slice (some ⟨lb, lo, none⟩) n lc, ev, .map (some qb)] 177 (0, 0)) ∧ Bot wr qb 0 (botI []) ∧ wr.ownsRow qb 179 3 ev q (eCells (firstE l q))) (fun v _ => n - (intOf v).toNat)
  case atStart => exact ⟨0, _, Nat.zero_le _, rfl, hb1, hm1, hQ1, World.ownsRow_nil _ _ _ _⟩
  case round =>
    obtain ⟨q, ev, hq, rfl, hbr, hmr, hQr, hown⟩ := hrel
    obtain ⟨eo, ec, rfl⟩ := ownsRow_slice hown
    by_cases hqn : q < n
    · obtain ⟨r, hr⟩ : ∃ r, l[q]? = some r := ⟨_, List.getElem?_eq_getElem (by omega)⟩
      obtain ⟨r0, r1, r2, r3⟩ := (hR.bl hbr).cells hr
      have hrn := hbig r (List.mem_of_getElem? hr)
      have i0 : (0 : Int) ≤ (q : Int) := Int.natCast_nonneg _
      have i1 : (q : Int) < (n : Int) := by omega
      have n0 : wr.cell? ⟨qb + 1, 0, none⟩ = some (.slice (some ⟨lb, lo, none⟩) n lc) := by rw [Lib.cell_of_heap hmr]; rfl
      have n1 : wr.cell? ⟨qb + 1, 1, none⟩ = some (.slice eo q ec) := by rw [Lib.cell_of_heap hmr]; rfl
      have mlt : qb + 1 < wr.heap.size := heap_lt hmr
      have mz := Lib.frozen_of_heap hmr 1
      rcases Nat.eq_zero_or_pos r.n with h0 | h0
      · have t1 : decide ((r.n : Int) < 1) = true := by simp; omega
        have hv := Lib.hid (show (0 : Int) = (r.n : Int) by omega)
        clear h0
        go_wp2_with (at_builtin; go_loud (refine wpList_append_lies _ rfl _ _ 175 rfl qb 179 ie _ 3 24 Tryz.underlying175 hie hiz his hib rfl (by omega) (.slice eo q ec) q _ rfl ((hown.alloc _).alloc _) ⟨wr.heap.size + 1, 0, none⟩ 1 1 [.int .i64 0, .int .i64 ((q : Int) - 1), .int .i64 ((q : Int) + 1)] rfl rfl (World.news_of_block (cs := #[.int .i64 0, .int .i64 ((q : Int) - 1), .int .i64 ((q : Int) + 1)]) (t := 179) (fr := (0, 0)) (new2 wr _ _)) (by simp [Value.oneCell']) (by omega) (by unfold maxLen; omega) (by omega) (by simp; omega) (wr.heap.size + 1 + 1) (by simp) ?_; intro g cap w3 hown3 hgrow3 hat3 hlt3; (try rw [hv.out] at hown3); obtain ⟨a1, a2, a3⟩ := add_entry hbr (Nat.le_of_eq hqb) hmr hQr hown hr (((Bl.refl wr).alloc _).alloc _) hown3 hgrow3; have a3 := Lib.hid a3))
        go_roundw
        case rel => exact ⟨q + 1, _, by omega, by go_num, a3.out.1, a3.out.2.1, a3.out.2.2.1, a3.out.2.2.2⟩
        case measure => simp [intOf]; omega
      · have t1 : decide ((r.n : Int) < 1) = false := by simp; omega
        have t2 : decide ((1073741824 : Int) < (r.n : Int)) = false := by simp; omega
        have hv := Lib.hid (show (r.n : Int) = (r.n : Int) by omega)
        clear h0
        go_wp2_with (at_builtin; go_loud (refine wpList_append_lies _ rfl _ _ 175 rfl qb 179 ie _ 3 24 Tryz.underlying175 hie hiz his hib rfl (by omega) (.slice eo q ec) q _ rfl ((hown.alloc _).alloc _) ⟨wr.heap.size + 1, 0, none⟩ 1 1 [.int .i64 (r.n : Int), .int .i64 ((q : Int) - 1), .int .i64 ((q : Int) + 1)] rfl rfl (World.news_of_block (cs := #[.int .i64 (r.n : Int), .int .i64 ((q : Int) - 1), .int .i64 ((q : Int) + 1)]) (t := 179) (fr := (0, 0)) (new2 wr _ _)) (by simp [Value.oneCell']) (by omega) (by unfold maxLen; omega) (by omega) (by simp; omega) (wr.heap.size + 1 + 1) (by simp) ?_; intro g cap w3 hown3 hgrow3 hat3 hlt3; (try rw [hv.out] at hown3); obtain ⟨a1, a2, a3⟩ := add_entry hbr (Nat.le_of_eq hqb) hmr hQr hown hr (((Bl.refl wr).alloc _).alloc _) hown3 hgrow3; have a3 := Lib.hid a3))
        go_roundw
        case rel => exact ⟨q + 1, _, by omega, by go_num, a3.out.1, a3.out.2.1, a3.out.2.2.1, a3.out.2.2.2⟩
        case measure => simp [intOf]; omega
    · obtain rfl : q = n := by omega
      obtain ⟨eb, ec', hev, heb, hebl⟩ := hown.form (by omega)
      cases hev
      obtain ⟨hE, hec⟩ := Ent.of_row hown (by simp [firstE])
      have hL := Lk.first l hbig
      rw [hl] at hL
      have hebw : w.heap.size ≤ eb := by omega
      have hM0 : MM w wr qb eb ec q (.slice (some ⟨lb, lo, none⟩) q lc) l (firstR l) (l.length + (l.map (·.n)).sum + 1) 0 (firstE l q) none 0 := ⟨hbr, ⟨hmr⟩, hE, hL, MInv.first l, hQr, Nat.zero_le _, by simp [firstR], World.ownsRow_nil _ _ _ _, rfl, muR_first l, by simp [firstR]⟩
      have hF : muR l (firstR l) ≤ 100001000000 := by
        have h1 := muR_first l
        have h2 := sum_le_big l hbig
        rw [hl] at h1 h2
        omega
      clear hown hmr hQr hE hL
      go_wp2_with fail
      go_loopw [7, 8] (fun v7 v8 wr => ∃ (m : Ms) (f cnt : Nat) (E : List Ee) (oo : Option Addr) (oc : Nat), v7 = .slice oo m.out.length oc ∧ v8 = .int .i64 (m.k : Int) ∧ MM w wr qb eb ec q (.slice (some ⟨lb, lo, none⟩) q lc) l m f cnt E oo oc) (fun _ v8 wr => (q - (intOf v8).toNat) + leftW wr eb q)
      case atStart => exact ⟨_, _, _, _, _, _, rfl, rfl, hM0⟩
      case round =>
        obtain ⟨m, f, cnt, E, oo, oc, rfl, rfl, hM⟩ := hrel
        by_cases hkn : m.k < q
        · obtain ⟨r, hr⟩ : ∃ r, l[m.k]? = some r := ⟨_, List.getElem?_eq_getElem (by omega)⟩
          obtain ⟨x, hx⟩ : ∃ x, E[m.k]? = some x := ⟨_, List.getElem?_eq_getElem (by rw [hM.lk.len]; exact hkn)⟩
          have hbr' := hM.bl
          have hRr := hR.bl hbr'
          obtain ⟨r0, r1, r2, r3⟩ := hRr.cells hr
          obtain ⟨x0, x1, x2⟩ := hM.en.cells hx
          obtain ⟨c0, c1, c2⟩ := hM.mx.cells
          have hxl := hM.lk.lf m.k x hx
          have hxp := hM.lk.prev hkn
          rw [getD_of hx] at hxp
          have hmb := heap_lt hM.mx.out
          have hmes := Lib.hid (leftW_eq hM.en hM.lk)
          rw [hxl] at x0
          have hlb := left_big hM.inv hbig
          have hkl : m.k < l.length := by omega
          have i0 : (0 : Int) ≤ (m.k : Int) := Int.natCast_nonneg _
          have i1 : (m.k : Int) < (q : Int) := by omega
          cases hsk : (!r.cl || m.left.getD m.k 0 == 0) with
          | true =>
            have hrd := roundR_skip hkl (by rw [getD_rn hr]; exact hsk)
            obtain ⟨hinv', f', hd', hmu', hom'⟩ := next_plain hM.inv hrd hM.done hM.mu hM.om (by simp)
            have hM' : MM w wr qb eb ec q (.slice (some ⟨lb, lo, none⟩) q lc) l { m with k := m.k + 1, stk := m.k :: m.stk } f' cnt E oo oc := ⟨hM.bl, hM.mx, hM.en, hM.lk.step hkn, hinv', hM.bo, by have := hM.cn; dsimp only; omega, hM.lo, hM.ow, hd', hmu', hom'⟩
            have hme := Lib.hid (show muR l { m with k := m.k + 1, stk := m.k :: m.stk } < muR l m from muR_next hM.inv hrd)
            cases hcl : r.cl with
            | false =>
              rw [hcl] at r3
              go_wp2_with fail
              go_roundw
              case rel => exact ⟨{ m with k := m.k + 1, stk := m.k :: m.stk }, _, _, _, _, _, rfl, by go_num, hM'⟩
              case measure => simp [intOf]; omega
            | true =>
              have h0 : m.left.getD m.k 0 = 0 := by rw [hcl] at hsk; simpa using hsk
              rw [hcl] at r3
              rw [h0] at x0
              have x0' : wr.cell? ⟨eb, m.k * 3, none⟩ = some (.int .i64 0) := x0
              clear x0
              go_wp2_with fail
              go_roundw
              case rel => exact ⟨{ m with k := m.k + 1, stk := m.k :: m.stk }, _, _, _, _, _, rfl, by go_num, hM'⟩
              case measure => simp [intOf]; omega
          | false =>
            have hcl : r.cl = true := by cases h : r.cl <;> simp_all
            have h0 : m.left.getD m.k 0 ≠ 0 := by rw [hcl] at hsk; simpa using hsk
            have hkp : 1 ≤ m.left.getD m.k 0 := by omega
            rw [hcl] at r3
            have hx0 := hM.lk.left hkn
            have hz : (((m.left.getD m.k 0 : Nat) : Int) == 0) = false := by
              have : ((m.left.getD m.k 0 : Nat) : Int) ≠ 0 := by omega
              simpa using this
            obtain ⟨lf, hlf⟩ : ∃ lf, m.left.getD m.k 0 = lf := ⟨_, rfl⟩
            rw [hlf] at x0 hz
            have hlo := lowR_lo l m hM.lo
            have hlow := low_eq l m hM.lk hkn
            have hSK := seek_eq l m hM.lk hkn hlo m.stk m.k (List.suffix_refl _) (fun x hx => hM.lk.lt x hx)
            have hOP := opener_any wr (qb + 1) eb qb q ec lb lo lc cnt l E (botI m.bot) m.k hM.mx hM.en hRr hM.bo hl hM.lk.len hkn hbig (fun i e he => by have := hM.lk.bd i e he; exact ⟨this.1, this.2.1⟩) (fun i e he => by have h1 := hM.lk.lf i e he; have h2 := hlb i; omega)
            rw [hlow, hM.lk.prev hkn, hSK] at hOP
            clear hSK hlow
            go_wp2_with fail
            refine hOP.mono ?_
            rintro e w5 ⟨rfl, hb5⟩
            dsimp only
            have hM5 : MM w w5 qb eb ec q (.slice (some ⟨lb, lo, none⟩) q lc) l m f cnt E oo oc := ⟨hM.bl.trans hb5, hM.mx.bl hb5, hM.en.bl hb5, hM.lk, hM.inv, hM.bo.bl hb5, hM.cn, hM.lo, hM.ow.kept (grownBy_of_bl hb5 none) (by cases (Value.slice oo m.out.length oc).ownBlock <;> simp), hM.done, hM.mu, hM.om⟩
            have hR5 := hRr.bl hb5
            have hmes5 := Lib.hid (leftW_eq hM5.en hM5.lk)
            obtain ⟨r0, r1, r2, r3⟩ := hR5.cells hr
            obtain ⟨x0, x1, x2⟩ := hM5.en.cells hx
            obtain ⟨c0, c1, c2⟩ := hM5.mx.cells
            rw [hxp] at x1
            cases hs : seekR l m m.stk with
            | nil =>
              have hj : headI ([] : List Nat) = -1 := rfl
              rw [hj]
              have hKK := key_eq l m hM.lk hkn
              have hkv : -9223372036854775808 ≤ (keyE l E m.k).2.2 ∧ (keyE l E m.k).2.2 ≤ 9223372036854775807 := by
                have h2 := hbig r (List.mem_of_getElem? hr)
                have h3 := hlb m.k
                unfold keyE; rw [getD_rn hr, hx0]; dsimp only
                split <;> dsimp only <;> omega
              have hcn : cnt ≤ 1000000 := by have := hM.cn; omega
              have hOF := fun W (h : Bl w5 W) => of_any W (qb + 1) eb qb q ec lb lo lc l E m.k (hM5.mx.bl h) (hM5.en.bl h) (hR5.bl h) hl hM.lk.len hkn hbig
              have hPUT := fun W (h : Bl w5 W) => (hM5.bo.bl h).put (w' := W) (keyE l E m.k) (headI m.stk) ⟨headI_lo _, by have := headI_lt hM.lk.lt; omega⟩ hkv hcn
              obtain ⟨kv, hkve⟩ : ∃ kv, keyV (keyE l E m.k) = kv := ⟨_, rfl⟩
              obtain ⟨hd, hhd⟩ : ∃ hd, headI m.stk = hd := ⟨_, rfl⟩
              rw [hkve] at hOF
              rw [hkve, hhd] at hPUT
              rw [hhd] at x1
              have HPUT := Lib.hid hPUT
              have HOF := Lib.hid hOF
              have hHH := Lib.hid hhd
              clear hOP hPUT hOF hkve hhd
              go_upto_region 18 with fail
              go_cut [] (fun wx => Bl w wx ∧ Mx wx (qb + 1) eb qb q ec (.slice (some ⟨lb, lo, none⟩) q lc) ∧ Ent wx eb E ∧ Bot wx qb (cnt + 1) ((keyE l E m.k, hd) :: botI m.bot) ∧ wx.ownsRow w.heap.size 119 3 (.slice oo m.out.length oc) m.out.length (pCells m.out))
              case first =>
                have hHeld : (fun w' : World => w'.cell? ⟨qb + 1, 1, none⟩ = some (.slice (some ⟨eb, 0, none⟩) q ec) ∧ w'.cell? ⟨qb + 1, 2, none⟩ = some (.map (some qb)) ∧ w'.cell? ⟨eb, m.k * 3 + 1, none⟩ = some (.int .i64 hd)) w5.drew := ⟨c1, c2, x1⟩
                refine wp_region_n (fun w' : World => w'.cell? ⟨qb + 1, 1, none⟩ = some (.slice (some ⟨eb, 0, none⟩) q ec) ∧ w'.cell? ⟨qb + 1, 2, none⟩ = some (.map (some qb)) ∧ w'.cell? ⟨eb, m.k * 3 + 1, none⟩ = some (.int .i64 hd)) [0, 1, 2, 3, 4, 5, 7, 8, 9, 10, 11, 12, 13, 14] (by kernel_rfl) ?_
                refine wpAnyN_take (i := 0) (v := ?rv1) rfl (by kernel_rfl) (by kernel_rfl) (by kernel_rfl) (by kernel_rfl) (by kernel_rfl) (fun _ _ _ h => h) (Or.inl ⟨by rfl, ?rh1⟩) hHeld ?_
                case rh1 => (intro w hSw; (try dsimp only at hSw); go_simp; try with_reducible rfl)
                refine wpAnyN_take (i := 1) (v := ?rv2) rfl (by kernel_rfl) (by kernel_rfl) (by kernel_rfl) (by kernel_rfl) (by kernel_rfl) (fun _ _ _ h => h) (Or.inl ⟨by rfl, ?rh2⟩) hHeld ?_
                case rh2 => (intro w hSw; (try dsimp only at hSw); go_simp; try with_reducible rfl)
                refine wpAnyN_take (i := 2) (v := ?rv3) rfl (by kernel_rfl) (by kernel_rfl) (by kernel_rfl) (by kernel_rfl) (by kernel_rfl) (fun _ _ _ h => h) (Or.inl ⟨by rfl, ?rh3⟩) hHeld ?_
                case rh3 => (intro w hSw; (try dsimp only at hSw); go_simp; try with_reducible rfl)
                refine wpAnyN_take (i := 3) (v := ?rv4) rfl (by kernel_rfl) (by kernel_rfl) (by kernel_rfl) (by kernel_rfl) (by kernel_rfl) (fun _ _ _ h => h) (Or.inl ⟨by rfl, ?rh4⟩) hHeld ?_
                case rh4 => (intro w hSw; (try dsimp only at hSw); go_simp; try with_reducible rfl)
                refine wpAnyN_take (i := 4) (v := ?rv5) rfl (by kernel_rfl) (by kernel_rfl) (by kernel_rfl) (by kernel_rfl) (by kernel_rfl) (fun _ _ _ h => h) (Or.inl ⟨by rfl, ?rh5⟩) hHeld ?_
                case rh5 => (intro w hSw; (try dsimp only at hSw); go_simp; try with_reducible rfl)
                refine wpAnyN_take (i := 5) (v := ?rv6) rfl (by kernel_rfl) (by kernel_rfl) (by kernel_rfl) (by kernel_rfl) (by kernel_rfl) (fun _ _ _ h => h) (Or.inl ⟨by rfl, ?rh6⟩) hHeld ?_
                case rh6 => (intro w hSw; (try dsimp only at hSw); go_simp; try with_reducible rfl)
                refine wpAnyN_take (i := 7) (v := ?rv7) rfl (by kernel_rfl) (by kernel_rfl) (by kernel_rfl) (by kernel_rfl) (by kernel_rfl) (fun _ _ _ h => h) (Or.inl ⟨by rfl, ?rh7⟩) hHeld ?_
                case rh7 => (intro w hSw; (try dsimp only at hSw); go_simp; try with_reducible rfl)
                refine wpAnyN_take (i := 8) (v := ?rv8) rfl (by kernel_rfl) (by kernel_rfl) (by kernel_rfl) (by kernel_rfl) (by kernel_rfl) (fun _ _ _ h => h) (Or.inl ⟨by rfl, ?rh8⟩) hHeld ?_
                case rh8 => (intro w hSw; (try dsimp only at hSw); go_simp; try with_reducible rfl)
                refine wpAnyN_take (i := 9) (v := ?rv9) rfl (by kernel_rfl) (by kernel_rfl) (by kernel_rfl) (by kernel_rfl) (by kernel_rfl) (fun _ _ _ h => h) (Or.inl ⟨by rfl, ?rh9⟩) hHeld ?_
                case rh9 => (intro w hSw; (try dsimp only at hSw); go_simp; try with_reducible rfl)
                refine wpAnyN_take (i := 10) (v := ?rv10) rfl (by kernel_rfl) (by kernel_rfl) (by kernel_rfl) (by kernel_rfl) (by kernel_rfl) (fun _ _ _ h => h) (Or.inl ⟨by rfl, ?rh10⟩) hHeld ?_
                case rh10 => (intro w hSw; (try dsimp only at hSw); go_simp; try with_reducible rfl)
                refine wpAnyN_take (i := 11) (v := ?rv11) rfl (by kernel_rfl) (by kernel_rfl) (by kernel_rfl) (by kernel_rfl) (by kernel_rfl) (fun _ _ _ h => h) (Or.inl ⟨by rfl, ?rh11⟩) hHeld ?_
                case rh11 => (intro w hSw; (try dsimp only at hSw); go_simp; try with_reducible rfl)
                refine wpAnyN_take (i := 12) (v := ?rv12) rfl (by kernel_rfl) (by kernel_rfl) (by kernel_rfl) (by kernel_rfl) (by kernel_rfl) (fun _ _ _ h => h) (Or.inl ⟨by rfl, ?rh12⟩) hHeld ?_
                case rh12 => (intro w hSw; (try dsimp only at hSw); go_simp; try with_reducible rfl)
                refine wpAnyN_take (i := 13) (v := ?rv13) rfl (by kernel_rfl) (by kernel_rfl) (by kernel_rfl) (by kernel_rfl) (by kernel_rfl) (fun _ _ _ h => h) (Or.inl ⟨by rfl, ?rh13⟩) hHeld ?_
                case rh13 => (intro w hSw; (try dsimp only at hSw); go_simp; try with_reducible rfl)
                refine wpAnyN_take (i := 14) (v := ?rv14) rfl (by kernel_rfl) (by kernel_rfl) (by kernel_rfl) (by kernel_rfl) (by kernel_rfl) (fun _ _ _ h => h) (Or.inl ⟨by rfl, ?rh14⟩) hHeld ?_
                case rh14 => (intro w hSw; (try dsimp only at hSw); go_simp; try with_reducible rfl)
                refine wpAnyN_ready (rs := [6]) (by kernel_rfl) (by simp) ?_
                refine AllN.cons rfl (fun K rK15 => ?_) ?_
                · go_simp
                  refine (HOF.out w5.drew (Bl.refl w5).drew).mono ?_
                  rintro e w6 ⟨rfl, hb6⟩
                  dsimp only
                  refine rK15.go _ _ (⟨hb6.cell c1, hb6.cell c2, hb6.cell x1⟩) (fun rS15 => ?_)
                  clear rK15 K
                  refine wpAnyN_ready (rs := [15]) (by kernel_rfl) (by simp) ?_
                  refine AllN.cons rfl (fun K rK16 => ?_) ?_
                  · obtain ⟨w7, hrun, hB7, hg7⟩ := HPUT.out w6 ((Bl.refl w5).drew.trans hb6)
                    refine step_update (by rfl) _ _ _ _ (by rfl) (by rfl) (by rfl) (by rfl) hrun ?_
                    clear hrun
                    refine rK16.out _ _ (not_early (by kernel_rfl)) ?_
                    clear rK16 K
                    refine wpAnyN_done (by kernel_rfl) ?_ _
                    go_wp2_with fail
                    go_meet
                    have hb56 := (Bl.refl w5).drew.trans hb6
                    have hbw6 := hM5.bl.trans hb56
                    have hm6 := hM5.mx.bl hb56
                    have hE6 := hM5.en.bl hb56
                    have how6 := hM5.ow.kept (grownBy_of_bl hb56 none) (by cases (Value.slice oo m.out.length oc).ownBlock <;> simp)
                    obtain ⟨es6, c6, hq6⟩ := (hM5.bo.bl hb56).isMap
                    obtain ⟨cur6, hcur6, _⟩ := hE6.ex
                    refine ⟨hbw6.grown hg7 (fun b hb => by cases hb; omega), hm6.same (hg7.block _ (heap_lt hm6.out) (by simp)), hE6.same (hg7.block _ hE6.lt (by intro e; cases e; rw [hq6] at hcur6; cases hcur6)), hB7, how6.kept hg7 (Or.inr (fun e => row_ne_map how6 ⟨es6, c6, hq6⟩ e.symm))⟩
                  exact AllN.nil
                exact AllN.nil
              case rest =>
                obtain ⟨hbc, hmc, hEc, hBc, howc⟩ := hcut
                have hRc := hR.bl hbc
                obtain ⟨r0, r1, r2, r3⟩ := hRc.cells hr
                have hBc' : Bot wc qb (cnt + 1) (botI ((keyR l m, headI m.stk) :: m.bot)) := by
                  show Bot wc qb (cnt + 1) ((keyI (keyR l m), headI m.stk) :: botI m.bot)
                  rw [← hKK, hHH.out]; exact hBc
                have hlo2 : ∀ x ∈ (keyR l m, headI m.stk) :: m.bot, -1 ≤ x.2 := fun x hx => by
                  rcases List.mem_cons.1 hx with rfl | hx
                  · exact headI_lo _
                  · exact hM.lo x hx
                have hmesc := Lib.hid (leftW_eq hEc hM.lk)
                cases hop : r.o with
                | true =>
                  rw [hop] at r2
                  have hrd := roundR_open hkl (by rw [getD_rn hr]; exact hsk) hs (by rw [getD_rn hr]; exact hop)
                  obtain ⟨hinv', f', hd', hmu', hom'⟩ := next_plain hM.inv hrd hM.done hM.mu hM.om (by simp)
                  have hM' : MM w wc qb eb ec q (.slice (some ⟨lb, lo, none⟩) q lc) l { m with k := m.k + 1, stk := m.k :: m.stk, bot := (keyR l m, headI m.stk) :: m.bot } f' (cnt + 1) E oo oc := ⟨hbc, hmc, hEc, hM.lk.step hkn, hinv', hBc', by have := hM.cn; dsimp only; omega, hlo2, howc, hd', hmu', hom'⟩
                  go_wp2_with fail
                  go_roundw
                  case rel => exact ⟨{ m with k := m.k + 1, stk := m.k :: m.stk, bot := (keyR l m, headI m.stk) :: m.bot }, _, _, _, _, _, rfl, by go_num, hM'⟩
                  case measure =>
                    have e1 := hmesc.out
                    have e2 := hmes.out
                    rw [e1, e2]
                    simp [intOf]; omega
                | false =>
                  rw [hop] at r2
                  have hrd := roundR_drop hkl (by rw [getD_rn hr]; exact hsk) hs (by rw [getD_rn hr]; exact hop)
                  obtain ⟨hinv', f', hd', hmu', hom'⟩ := next_plain hM.inv hrd hM.done hM.mu hM.om (by simp)
                  have hxb := hM.lk.bd m.k x hx
                  go_wp2_with fail
                  refine (drop_any wc (qb + 1) eb qb q ec _ E m.k x hmc hEc hM.lk.len hec (by omega) hx hxb.1 hxb.2.1 hxb.2.2.1 hxb.2.2.2).mono ?_
                  rintro e w8 ⟨rfl, hE8, hO8⟩
                  dsimp only
                  have hL8 := hM.lk.dropK hkn
                  have hm8 := hmc.on hEc hO8
                  obtain ⟨cur5, hcur5, _⟩ := hEc.ex
                  have hnr := row_ne howc hcur5 (by decide)
                  have how8 := howc.kept hO8.out (Or.inr (fun e => hnr e.symm))
                  have hB8 := hBc'.same hO8.out (by
                    obtain ⟨es, c, hq⟩ := hBc'.isMap
                    intro e
                    cases e
                    rw [hcur5] at hq
                    cases hq)
                  have hb8 : Bl w w8 := hbc.grown hO8.out (fun b hb => by cases hb; exact hebw)
                  have hM' : MM w w8 qb eb ec q (.slice (some ⟨lb, lo, none⟩) q lc) l { m with k := m.k + 1, left := m.left.set m.k 0, bot := (keyR l m, headI m.stk) :: m.bot } f' (cnt + 1) (dropE E m.k) oo oc := ⟨hb8, hm8, hE8, hL8, hinv', hB8, by have := hM.cn; dsimp only; omega, hlo2, how8, hd', hmu', hom'⟩
                  have hmes8 := Lib.hid (leftW_eq hE8 hL8)
                  have hss := sum_set m.left m.k 0 (by rw [hM.lk.llen]; exact hkn)
                  go_wp2_with fail
                  go_roundw
                  case rel => exact ⟨{ m with k := m.k + 1, left := m.left.set m.k 0, bot := (keyR l m, headI m.stk) :: m.bot }, _, _, _, _, _, rfl, by go_num, hM'⟩
                  case measure =>
                    have e1 := hmes8.out
                    have e2 := hmes.out
                    rw [e1, e2]
                    simp [intOf]; omega
            | cons j t =>
              have hj : headI (j :: t) = (j : Int) := rfl
              rw [hj]
              have hsuf := seekR_suffix l m m.stk
              rw [hs] at hsuf
              obtain ⟨g, hg⟩ := hsuf
              have hg := hg.symm
              have hopn := seekR_opens l m _ _ _ hs
              obtain ⟨hN1, hN2, hN3⟩ := sizeR_bounds hopn hkp
              have hjg : j ∉ g := by
                intro h
                have := hM.lk.desc
                rw [hg] at this
                have := (List.pairwise_append.1 this).2.2 j h j (by simp)
                omega
              have hjk : j < m.k := hM.lk.lt j (by rw [hg]; simp)
              have hLg : Lk q E m.k (g ++ j :: t) m.left := by rw [← hg]; exact hM.lk
              have hSZ := size_eq l m hM.lk hkn (show j < q by omega)
              have hPA := pair_any w5 (qb + 1) eb qb q ec lb lo lc l E m.k j (sizeR l m j) g t m.left hM5.mx hM5.en hR5 hl hec (by omega) hkn hLg hSZ hN3 hN2 hlb
              have hrd := roundR_pair hkl (by rw [getD_rn hr]; exact hsk) hs hg hjg
              obtain ⟨m', hm'⟩ : ∃ m', m' = { m with
                  stk := if (((goneL g m.left).set j (m.left.getD j 0 - sizeR l m j)).set m.k (m.left.getD m.k 0 - sizeR l m j)).getD j 0 == 0 then t else j :: t
                  left := ((goneL g m.left).set j (m.left.getD j 0 - sizeR l m j)).set m.k (m.left.getD m.k 0 - sizeR l m j)
                  out := m.out ++ [(j, m.k, sizeR l m j)] } := ⟨_, rfl⟩
              rw [← hm'] at hrd
              obtain ⟨hinv', f', hd', hmu', hom'⟩ := next_plain hM.inv hrd hM.done hM.mu hM.om (by rw [hm']; simp)
              have hme := Lib.hid (muR_next hM.inv hrd)
              have hjp : decide ((0 : Int) ≤ (j : Int)) = true := by simp
              obtain ⟨NN, hNN⟩ : ∃ NN, sizeR l m j = NN := ⟨_, rfl⟩
              rw [hNN] at hPA hm'
              go_wp2_with fail
              refine hPA.mono ?_
              rintro e w6 ⟨rfl, hO6, E6, hE6, hL6⟩
              dsimp only
              have hm6 := hM5.mx.on hM5.en hO6
              have hR6 := hR5.on hM5.en hO6
              obtain ⟨cur5, hcur5, _⟩ := hM5.en.ex
              have hnr := row_ne hM5.ow hcur5 (by decide)
              have how6 := hM5.ow.kept hO6.out (by right; exact fun e => hnr e.symm)
              have hQ6 := hM5.bo.same hO6.out (by
                obtain ⟨es, c, hq⟩ := hM5.bo.isMap
                intro e
                cases e
                rw [hcur5] at hq
                cases hq)
              have hb6 : Bl w w6 := hM5.bl.grown hO6.out (fun b hb => by cases hb; exact hebw)
              have hom2 : m.out.length ≤ 100001000000 := by have := hM.om; omega
              have hbs6 := hb6.size
              clear hOP hPA
              go_wp2_with (at_builtin; go_loud (refine wpList_append_lies _ rfl _ _ 116 rfl w.heap.size 119 ip _ 3 24 Tryz.underlying116 hip hpz hps hpb rfl (by omega) (.slice oo m.out.length oc) m.out.length _ rfl (how6.alloc _) ⟨w6.heap.size, 0, none⟩ 1 1 [.int .i64 (j : Int), .int .i64 (m.k : Int), .int .i64 (NN : Int)] rfl rfl (World.news_of_block (cs := #[.int .i64 (j : Int), .int .i64 (m.k : Int), .int .i64 (NN : Int)]) (t := 119) (fr := (0, 0)) (heap_alloc_new w6 _)) (by simp [Value.oneCell']) (by omega) (by unfold maxLen; omega) (by omega) (by simp; omega) (w6.heap.size + 1) (by simp) ?_; intro og ocap w7 hown7 hgrow7 hat7 hlt7))
              have hE6l : Lk q E6 m.k m'.stk m'.left := by rw [hm']; exact hL6
              obtain ⟨a1, a2, a3⟩ := mm_row hm6 hE6 hQ6 ((Bl.refl w6).alloc _) how6 hgrow7
              have hb7 : Bl w w7 := (hb6.alloc _).grown hgrow7 (fun b hb => (how6.lt b hb).1)
              have hk' : m'.k = m.k := by rw [hm']
              have ho' : m'.out.length = m.out.length + 1 := by rw [hm']; simp
              have how7 : w7.ownsRow w.heap.size 119 3 (.slice (some ⟨og, 0, none⟩) m'.out.length ocap) m'.out.length (pCells m'.out) := by
                rw [ho']; rw [hm', pCells_snoc]; exact hown7
              have hM7 : MM w w7 qb eb ec q (.slice (some ⟨lb, lo, none⟩) q lc) l m' f' cnt E6 (some ⟨og, 0, none⟩) ocap := ⟨hb7, a1, a2, by rw [hk']; exact hE6l, hinv', by rw [hm']; exact a3, by rw [hk']; exact hM.cn, by rw [hm']; exact hM.lo, how7, hd', hmu', hom'⟩
              refine ⟨⟨m', f', cnt, E6, _, _, by rw [ho'], by rw [hk'], hM7⟩, ?_⟩
              have e7 := leftW_eq hM7.en hM7.lk
              have e5 := hmes.out
              have em := hme.out
              rw [e7, e5]
              unfold muR at em
              rw [hk'] at em
              simp [intOf]
              omega
        · have hk2 := hM.lk.kn
          have hdn := hM.done
          rw [roundsR_done _ (by omega)] at hdn
          have hbl := hM.bl
          have how := hM.ow
          rw [hdn] at how
          obtain ⟨kk, hkk⟩ : ∃ kk, m.k = kk := ⟨_, rfl⟩
          obtain ⟨oL, hoL⟩ : ∃ oL, m.out.length = oL := ⟨_, rfl⟩
          have hoL' := hoL
          rw [hdn] at hoL'
          obtain rfl : kk = q := by omega
          rw [hkk, hoL]
          rw [hoL'] at how
          have how := Lib.hid how
          clear hdn
          go_wp2_with fail
          go_ret
          exact ⟨_, rfl, by rw [hoL']; exact how.out, hbl⟩
end Go.Proofs.YtjocbifjmchbcaaGreatDoor
/- What runs are used for, in memory. -/
namespace Go.Proofs.YtjocbifjmchbcaaGreatDoor
open Go.RowKit

def upd {α : Type} (f : Nat → α) (i : Nat) (x : α) : Nat → α := fun j => if j = i then x else f j
theorem upd_same {α : Type} (f : Nat → α) (i : Nat) (x : α) : upd f i x i = x := by simp [upd]
theorem upd_other {α : Type} (f : Nat → α) {i j : Nat} (x : α) (h : j ≠ i) : upd f i x j = f j := by simp [upd, h]
def opsV (l : List Nat) : List Value := l.map fun (k : Nat) => .int .i64 (k : Int)
structure Uz (w : World) (base ub n : Nat) (u : Nat → Us) (v : Nat → Value) : Prop where
  ex : ∃ cur, w.heap[ub]? = some (.cells cur 86 (0, 0)) ∧ ∀ i, i < n → cur[i * 3]? = some (.int .i64 ((u i).closes : Int)) ∧ cur[i * 3 + 1]? = some (v i) ∧ cur[i * 3 + 2]? = some (.int .i64 (u i).left)
  rows : ∀ i, i < n → w.ownsRow base 3 1 (v i) (u i).opens.length (opsV (u i).opens)
  dis : ∀ i j, i < n → j < n → i ≠ j → (v i).ownBlock = none ∨ (v i).ownBlock ≠ (v j).ownBlock
theorem Uz.cells {w : World} {base ub n : Nat} {u : Nat → Us} {v : Nat → Value} (h : Uz w base ub n u v) {i : Nat} (hi : i < n) :
    w.cell? ⟨ub, i * 3, none⟩ = some (.int .i64 ((u i).closes : Int)) ∧ w.cell? ⟨ub, i * 3 + 1, none⟩ = some (v i) ∧ w.cell? ⟨ub, i * 3 + 2, none⟩ = some (.int .i64 (u i).left) := by
  obtain ⟨cur, h1, h2⟩ := h.ex
  rw [Lib.cell_of_heap h1, Lib.cell_of_heap h1, Lib.cell_of_heap h1]
  exact h2 i hi
theorem Uz.free {w : World} {base ub n : Nat} {u : Nat → Us} {v : Nat → Value} (h : Uz w base ub n u v) (o : Nat) : w.frozen? ⟨ub, o, none⟩ = false := by
  obtain ⟨cur, h1, h2⟩ := h.ex; exact Lib.frozen_of_heap h1 o
theorem Uz.lt {w : World} {base ub n : Nat} {u : Nat → Us} {v : Nat → Value} (h : Uz w base ub n u v) : ub < w.heap.size := by
  obtain ⟨cur, h1, _⟩ := h.ex; exact heap_lt h1
theorem Uz.ne {w : World} {base ub n : Nat} {u : Nat → Us} {v : Nat → Value} (h : Uz w base ub n u v) {i : Nat} (hi : i < n) : some ub ≠ (v i).ownBlock := by
  obtain ⟨cur, h1, _⟩ := h.ex
  exact row_ne (h.rows i hi) h1 (by decide)
theorem Uz.bl {w w' : World} {base ub n : Nat} {u : Nat → Us} {v : Nat → Value} (h : Uz w base ub n u v) (k : Bl w w') : Uz w' base ub n u v := by
  obtain ⟨cur, h1, h2⟩ := h.ex
  exact ⟨⟨cur, (k.block (heap_lt h1)).trans h1, h2⟩, fun i hi => (h.rows i hi).kept (grownBy_of_bl k none) (by cases (v i).ownBlock <;> simp), h.dis⟩
theorem Uz.congr {w : World} {base ub n : Nat} {u u' : Nat → Us} {v : Nat → Value} (h : Uz w base ub n u v) (k : ∀ i, i < n → u' i = u i) : Uz w base ub n u' v := by
  obtain ⟨cur, h1, h2⟩ := h.ex
  refine ⟨⟨cur, h1, fun i hi => by rw [k i hi]; exact h2 i hi⟩, fun i hi => by rw [k i hi]; exact h.rows i hi, h.dis⟩
theorem setIf_get {cur : Array Value} {i j : Nat} {x y : Value} (h : cur[j]? = some y) : (cur.setIfInBounds i x)[j]? = if i = j then some x else some y := by
  have hlt := (Array.getElem?_eq_some_iff.1 h).1
  rw [Array.getElem?_setIfInBounds]
  split
  · subst_vars; rw [if_pos hlt]
  · exact h
/-- A store into one of the numbers. -/
theorem Uz.num {w : World} {base ub n : Nat} {u : Nat → Us} {v : Nat → Value} (h : Uz w base ub n u v) {i : Nat} (hi : i < n) (c : Nat) (y : Us) (x : Int)
    (hc : (c = 0 ∧ x = (y.closes : Int) ∧ y.opens = (u i).opens ∧ y.left = (u i).left) ∨ (c = 2 ∧ x = y.left ∧ y.opens = (u i).opens ∧ y.closes = (u i).closes)) :
    Uz (w.setCell ⟨ub, i * 3 + c, none⟩ (.int .i64 x)) base ub n (upd u i y) v := by
  obtain ⟨cur, h1, h2⟩ := h.ex
  refine ⟨⟨cur.setIfInBounds (i * 3 + c) (.int .i64 x), by simp [World.setCell, Array.getElem?_modify, h1], fun j hj => ?_⟩, fun j hj => ?_, h.dis⟩
  · obtain ⟨g0, g1, g2⟩ := h2 j hj
    have hcl : c = 0 ∨ c = 2 := by rcases hc with ⟨rfl, _⟩ | ⟨rfl, _⟩ <;> simp
    by_cases e : j = i
    · subst e
      rw [upd_same]
      rw [setIf_get g0, setIf_get g1, setIf_get g2]
      rcases hc with ⟨rfl, rfl, e2, e3⟩ | ⟨rfl, rfl, e2, e3⟩
      · rw [if_pos (by omega), if_neg (by omega), if_neg (by omega), e3]; exact ⟨rfl, rfl, rfl⟩
      · rw [if_neg (by omega), if_neg (by omega), if_pos (by omega), e3]; exact ⟨rfl, rfl, rfl⟩
    · rw [upd_other _ _ e]
      rw [setIf_get g0, setIf_get g1, setIf_get g2]
      rw [if_neg (by omega), if_neg (by omega), if_neg (by omega)]
      exact ⟨rfl, rfl, rfl⟩
  · have hro : (upd u i y j).opens = (u j).opens := by
      by_cases e : j = i
      · subst e
        rw [upd_same]
        rcases hc with ⟨_, _, e2, _⟩ | ⟨_, _, e2, _⟩ <;> exact e2
      · rw [upd_other _ _ e]
    rw [hro]
    refine ownsRow_same (h.rows j hj) (fun x hx => Below.heap_setCell _ _ _ _ ?_)
    have := h.ne hj
    intro e
    rw [hx] at this
    exact this (by rw [e])
/-- One more opened. -/
theorem Uz.more {w w0 w1 : World} {base ub n : Nat} {u : Nat → Us} {v : Nat → Value} (h : Uz w base ub n u v) (hb : Bl w w0) {i : Nat} (hi : i < n) (k g cap : Nat)
    (hg : w0.grownBy w1 (v i).ownBlock) (hown : w1.ownsRow base 3 1 (.slice (some ⟨g, 0, none⟩) ((u i).opens.length + 1) cap) ((u i).opens.length + 1) (opsV (u i).opens ++ [.int .i64 (k : Int)]))
    (hat : (v i).ownBlock = some g ∨ g = w0.heap.size) :
    (w1.cell? ⟨ub, i * 3 + 1, none⟩ = some (v i) ∧ w1.frozen? ⟨ub, i * 3 + 1, none⟩ = false) ∧
    Uz (w1.setCell ⟨ub, i * 3 + 1, none⟩ (.slice (some ⟨g, 0, none⟩) ((u i).opens.length + 1) cap)) base ub n (upd u i { u i with opens := (u i).opens ++ [k] }) (upd v i (.slice (some ⟨g, 0, none⟩) ((u i).opens.length + 1) cap)) := by
  have h0 := h.bl hb
  obtain ⟨cur, h1, h2⟩ := h0.ex
  have h11 : w1.heap[ub]? = some (.cells cur 86 (0, 0)) := (hg.block ub (heap_lt h1) (h0.ne hi)).trans h1
  refine ⟨⟨by rw [Lib.cell_of_heap h11]; exact (h2 i hi).2.1, Lib.frozen_of_heap h11 _⟩, ⟨cur.setIfInBounds (i * 3 + 1) (.slice (some ⟨g, 0, none⟩) ((u i).opens.length + 1) cap), by simp [World.setCell, Array.getElem?_modify, h11], fun j hj => ?_⟩, fun j hj => ?_, fun j j' hj hj' hne => ?_⟩
  · obtain ⟨g0, g1, g2⟩ := h2 j hj
    rw [setIf_get g0, setIf_get g1, setIf_get g2]
    by_cases e : j = i
    · subst e
      rw [upd_same, upd_same, if_neg (by omega), if_pos (by omega), if_neg (by omega)]; exact ⟨rfl, rfl, rfl⟩
    · rw [upd_other _ _ e, upd_other _ _ e]
      rw [if_neg (by omega), if_neg (by omega), if_neg (by omega)]
      exact ⟨rfl, rfl, rfl⟩
  · have hgu : g ≠ ub := by
      have := row_ne hown h11 (by decide)
      intro e
      exact this (by rw [e]; rfl)
    by_cases e : j = i
    · subst e
      rw [upd_same, upd_same]
      have e1 : (({ u j with opens := (u j).opens ++ [k] } : Us).opens).length = (u j).opens.length + 1 := by simp
      have e2 : opsV (({ u j with opens := (u j).opens ++ [k] } : Us).opens) = opsV (u j).opens ++ [.int .i64 (k : Int)] := by simp [opsV]
      rw [e1, e2]
      refine ownsRow_same hown (fun x hx => Below.heap_setCell _ _ _ _ ?_)
      cases hx
      exact hgu
    · rw [upd_other _ _ e, upd_other _ _ e]
      have hr := (h0.rows j hj).kept hg (by
        rcases h.dis j i hj hi e with h3 | h3
        · exact .inl h3
        · exact .inr h3)
      refine ownsRow_same hr (fun x hx => Below.heap_setCell _ _ _ _ ?_)
      have := h0.ne hj
      intro e
      rw [hx] at this
      exact this (by rw [e])
  · have hlt : ∀ j, j < n → ∀ x, (v j).ownBlock = some x → x < w0.heap.size := fun j hj x hx => ((h0.rows j hj).lt x hx).2
    have hd : ∀ j, j < n → j ≠ i → (v j).ownBlock = none ∨ (v j).ownBlock ≠ some g := fun j hj e => by
      rcases hat with h3 | h3
      · rcases h.dis j i hj hi e with h4 | h4
        · exact .inl h4
        · exact .inr (by rw [← h3]; exact h4)
      · cases h5 : (v j).ownBlock with
        | none => exact .inl rfl
        | some x => right; intro e2; cases e2; have := hlt j hj _ h5; omega
    by_cases e : j = i
    · subst e
      rw [upd_same, upd_other _ _ (Ne.symm hne)]
      right
      rcases hd j' hj' (Ne.symm hne) with h3 | h3
      · rw [h3]; simp [Value.ownBlock]
      · exact fun e2 => h3 e2.symm
    · rw [upd_other _ _ e]
      by_cases e2 : j' = i
      · subst e2
        rw [upd_same]
        exact hd j hj e
      · rw [upd_other _ _ e2]
        exact h.dis j j' hj hj' hne
/-- As they are made. -/
theorem Uz.made {w1 : World} {base n ub : Nat} (h : w1.ownsRow base 86 3 (.slice (some ⟨ub, 0, none⟩) n n) n (madeCells #[.int .i64 0, .slice none 0 0, .int .i64 0] (n * 3)).toList) : Uz w1 base ub n (fun _ => ⟨0, [], 0⟩) (fun _ => .slice none 0 0) := by
  rcases h.2 with ⟨h1, _⟩ | ⟨g, cap', cur, h1, hb, hg, hc, _, hs, ht⟩
  · cases h1
  · cases h1
    refine ⟨⟨cur, hg, fun i hi => ?_⟩, fun i _ => World.ownsRow_nil _ _ _ _, fun i j _ _ _ => .inl rfl⟩
    have hm : ∀ c, c < 3 → cur[i * 3 + c]? = some (#[Value.int .i64 0, .slice none 0 0, .int .i64 0][c]!) := by
      intro c hc
      have : (cur.toList.take (n * 3))[i * 3 + c]? = (madeCells #[.int .i64 0, .slice none 0 0, .int .i64 0] (n * 3)).toList[i * 3 + c]? := by rw [ht]
      rw [List.getElem?_take, if_pos (by omega)] at this
      simp [madeCells] at this
      rw [this]
      have hlt : i * 3 + c < n * 3 := by omega
      have e3 : (i * 3 + c) % 3 = c := by omega
      simp [hlt, e3]
    refine ⟨?_, ?_, ?_⟩
    · exact hm 0 (by omega)
    · exact hm 1 (by omega)
    · exact hm 2 (by omega)

/-! the words -/
theorem useL_nil (l : List Rn) (k : Nat) : useL l [] k = ⟨0, [], ((l.getD k default).n : Int)⟩ := by simp [useL]
theorem useL_snoc (l : List Rn) (p : List (Nat × Nat × Nat)) (x : Nat × Nat × Nat) (k : Nat) : useL l (p ++ [x]) k =
    { closes := (useL l p k).closes + if x.2.1 = k then 1 else 0
      opens := (useL l p k).opens ++ if x.1 = k then [kindR (l.getD k default).c x.2.2] else []
      left := (useL l p k).left - (if x.1 = k then (x.2.2 : Int) else 0) - (if x.2.1 = k then (x.2.2 : Int) else 0) } := by
  unfold useL
  by_cases h1 : x.1 = k <;> by_cases h2 : x.2.1 = k <;> simp [h1, h2, List.filter_append] <;> omega
theorem used_sum (k : Nat) : ∀ p : List (Nat × Nat × Nat), (usedR k p : Int) = ((p.filter fun x => x.1 == k).map fun x => (x.2.2 : Int)).sum + ((p.filter fun x => x.2.1 == k).map fun x => (x.2.2 : Int)).sum
  | [] => by simp [usedR]
  | a :: p => by
    have ih := used_sum k p
    rw [usedR]
    by_cases h1 : a.1 = k <;> by_cases h2 : a.2.1 = k <;> simp [h1, h2, List.filter_cons] <;> omega
theorem useL_left (l : List Rn) (k : Nat) (p : List (Nat × Nat × Nat)) : (useL l p k).left = ((l.getD k default).n : Int) - (usedR k p : Int) := by
  rw [used_sum]; unfold useL; dsimp only; omega
theorem usedR_append (k : Nat) : ∀ (p q : List (Nat × Nat × Nat)), usedR k (p ++ q) = usedR k p + usedR k q
  | [], q => by simp [usedR]
  | a :: p, q => by rw [List.cons_append, usedR, usedR, usedR_append k p q]; omega
theorem usedR_take (k q : Nat) (p : List (Nat × Nat × Nat)) : usedR k (p.take q) ≤ usedR k p := by
  have := usedR_append k (p.take q) (p.drop q)
  rw [List.take_append_drop] at this
  omega
theorem useL_closes (l : List Rn) (k : Nat) (p : List (Nat × Nat × Nat)) : (useL l p k).closes ≤ p.length := List.length_filter_le _ _
theorem useL_opens (l : List Rn) (k : Nat) (p : List (Nat × Nat × Nat)) : (useL l p k).opens.length ≤ p.length := by unfold useL; simp; exact List.length_filter_le _ _
end Go.Proofs.YtjocbifjmchbcaaGreatDoor
