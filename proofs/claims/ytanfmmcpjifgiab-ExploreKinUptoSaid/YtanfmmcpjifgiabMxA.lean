/-
  The abstract heap: what is known of the world's memory, block by block; kinds of values and their cells; the relation between an abstract state and the machine's.
-/
import Derived.Orders
import Derived.Laws.World
import Derived.KernelRfl
set_option linter.unusedVariables false
set_option linter.unusedSimpArgs false
namespace Go.Mx

inductive HObj where
  | cells (cs : List Value) (ro : Bool)
  | map (es : Array MapEntry) (clock : Nat)

abbrev Heap := Nat → Option HObj
def upd (h : Heap) (b : Nat) (o : HObj) : Heap := fun x => if x = b then some o else h x
theorem upd_same (h : Heap) (b : Nat) (o : HObj) : upd h b o b = some o := by simp [upd]
theorem upd_ne (h : Heap) {b c : Nat} (o : HObj) (e : c ≠ b) : upd h b o c = h c := by simp [upd, e]
theorem upd_upd (h : Heap) (b : Nat) (o o' : HObj) : upd (upd h b o) b o' = upd h b o' := by funext x; by_cases e : x = b <;> simp [upd, e]

/-- What an abstract object says of a block. -/
def Is : HObj → Obj → Prop
  | .cells cs ro, o => ∃ t f, o = .cells cs.toArray t f ∧ (ro = false → f = (0, 0))
  | .map es c, o => o = .map es c
def Sub (h : Heap) (w : World) : Prop := ∀ b o, h b = some o → ∃ x, w.heap[b]? = some x ∧ Is o x

/-- A block's type and frozen range. -/
def tagOf : Option Obj → Option (TypeId × (Nat × Nat))
  | some (.cells _ t f) => some (t, f)
  | _ => none

/-- From (h0, w0) to (h, w): what h0 does not speak of is as it was. -/
structure Inv (h0 : Heap) (w0 : World) (h : Heap) (w : World) : Prop where
  sub : Sub h w
  size : w0.heap.size ≤ w.heap.size
  keep : ∀ b, b < w0.heap.size → h0 b = none → w.heap[b]? = w0.heap[b]? ∧ h b = none
  tag : ∀ b, b < w0.heap.size → tagOf w.heap[b]? = tagOf w0.heap[b]?
  os : w.os = w0.os
  tape : w.tape = w0.tape
  out : w.output = w0.output

theorem Sub.lt {h : Heap} {w : World} (s : Sub h w) {b : Nat} {o : HObj} (e : h b = some o) : b < w.heap.size := by
  obtain ⟨x, hx, _⟩ := s b o e
  exact (Array.getElem?_eq_some_iff.1 hx).1

theorem Inv.refl {h : Heap} {w : World} (s : Sub h w) : Inv h w h w := ⟨s, Nat.le_refl _, fun _ _ e => ⟨rfl, e⟩, fun _ _ => rfl, rfl, rfl, rfl⟩

theorem Inv.trans {h0 h1 h2 : Heap} {w0 w1 w2 : World} (a : Inv h0 w0 h1 w1) (b : Inv h1 w1 h2 w2) : Inv h0 w0 h2 w2 where
  sub := b.sub
  size := Nat.le_trans a.size b.size
  keep x hx e := by
    obtain ⟨e1, e2⟩ := a.keep x hx e
    obtain ⟨e3, e4⟩ := b.keep x (Nat.lt_of_lt_of_le hx a.size) e2
    exact ⟨e3.trans e1, e4⟩
  tag x hx := (b.tag x (Nat.lt_of_lt_of_le hx a.size)).trans (a.tag x hx)
  os := b.os.trans a.os
  tape := b.tape.trans a.tape
  out := b.out.trans a.out

theorem Inv.drew {h0 h : Heap} {w0 w : World} (a : Inv h0 w0 h w) (n : Nat) : Inv h0 w0 h { w with drawn := n } :=
  ⟨a.sub, a.size, a.keep, a.tag, a.os, a.tape, a.out⟩

/-- The heap may forget. -/
theorem Inv.less {h0 h h' : Heap} {w0 w : World} (a : Inv h0 w0 h w) (l : ∀ b o, h' b = some o → h b = some o) : Inv h0 w0 h' w where
  sub b o e := a.sub b o (l b o e)
  size := a.size
  keep b hb e := ⟨(a.keep b hb e).1, by
    cases e' : h' b with
    | none => rfl
    | some o => have := l b o e'; rw [(a.keep b hb e).2] at this; cases this⟩
  tag := a.tag
  os := a.os
  tape := a.tape
  out := a.out

theorem heap_alloc_old (w : World) (o : Obj) {b : Nat} (hb : b < w.heap.size) : (w.alloc o).heap[b]? = w.heap[b]? := by
  show (w.heap.push o)[b]? = _
  rw [Array.getElem?_push, if_neg (by omega)]
theorem heap_alloc_new (w : World) (o : Obj) : (w.alloc o).heap[w.heap.size]? = some o := by
  show (w.heap.push o)[w.heap.size]? = _
  simp
theorem size_alloc (w : World) (o : Obj) : (w.alloc o).heap.size = w.heap.size + 1 := by
  show (w.heap.push o).size = _
  simp

theorem none_of_size {h : Heap} {w : World} (s : Sub h w) : h w.heap.size = none := by
  cases e : h w.heap.size with
  | none => rfl
  | some o => have := s.lt e; omega

/-- A new block that nobody tracks. -/
theorem Inv.hide {h0 h : Heap} {w0 w : World} (a : Inv h0 w0 h w) (o : Obj) : Inv h0 w0 h (w.alloc o) where
  sub b x e := by
    have hb := a.sub.lt e
    rw [heap_alloc_old w o hb]; exact a.sub b x e
  size := by rw [size_alloc]; have := a.size; omega
  keep b hb e := by
    have := a.size
    rw [heap_alloc_old w o (by omega)]; exact a.keep b hb e
  tag b hb := by
    have := a.size
    rw [heap_alloc_old w o (by omega)]; exact a.tag b hb
  os := a.os
  tape := a.tape
  out := a.out

/-- A new block that is tracked. -/
theorem Inv.new {h0 h : Heap} {w0 w : World} (a : Inv h0 w0 h w) {o : Obj} {x : HObj} (i : Is x o) : Inv h0 w0 (upd h w.heap.size x) (w.alloc o) where
  sub b y e := by
    by_cases hb : b = w.heap.size
    · subst hb
      rw [upd_same] at e; cases e
      exact ⟨o, heap_alloc_new w o, i⟩
    · rw [upd_ne h x hb] at e
      rw [heap_alloc_old w o (a.sub.lt e)]; exact a.sub b y e
  size := by rw [size_alloc]; have := a.size; omega
  keep b hb e := by
    have := a.size
    rw [heap_alloc_old w o (by omega), upd_ne h x (by omega)]; exact a.keep b hb e
  tag b hb := by
    have := a.size
    rw [heap_alloc_old w o (by omega)]; exact a.tag b hb
  os := a.os
  tape := a.tape
  out := a.out

/-! ### cells -/

/-- The cell at an address, as far as it is known. -/
def cell (h : Heap) (a : Addr) : Option Value :=
  match h a.block with
  | some (.cells cs _) => if a.spot.isSome then none else cs[a.off]?
  | _ => none

theorem cell_sound {h : Heap} {w : World} (s : Sub h w) {a : Addr} {v : Value} (e : cell h a = some v) : w.cell? a = some v := by
  unfold cell at e
  split at e
  · rename_i cs ro hb
    obtain ⟨x, hx, t, f, rfl, _⟩ := s _ _ hb
    unfold World.cell?
    rw [hx]
    simp only
    split at e
    · cases e
    · rename_i hs
      simp [hs, e]
  · cases e

/-- So many cells lie there. -/
def cellsAt (h : Heap) (a : Addr) (l : List Value) : Prop := ∀ j v, l[j]? = some v → cell h (a.add j) = some v

/-- They may be written. -/
def canWrite (h : Heap) (a : Addr) (n : Nat) : Prop := a.spot = none ∧ ∃ cs, h a.block = some (.cells cs false) ∧ a.off + n ≤ cs.length

/-- Cells written over others. -/
def splice (cs : List Value) (off : Nat) (l : List Value) : List Value := cs.take off ++ l ++ cs.drop (off + l.length)
def write (h : Heap) (a : Addr) (l : List Value) : Heap :=
  match h a.block with
  | some (.cells cs ro) => upd h a.block (.cells (splice cs a.off l) ro)
  | _ => h

/-! ### kinds -/
inductive Kd where
  | int (k : IntKind) | bool | str | sl | ptr | map | iface | fn | nil
  | pair (a b : Kd)
  | arr (n : Nat) (a : Kd)
  deriving DecidableEq

structure Sl where
  a : Option Addr
  len : Nat
  cap : Nat
  deriving DecidableEq

def Sl.val (s : Sl) : Value := .slice s.a s.len s.cap
def Sl.none : Sl := ⟨.none, 0, 0⟩

abbrev Den : Kd → Type
  | .int _ => Int
  | .bool => Bool
  | .str => ByteArray
  | .sl => Sl
  | .ptr => Option Addr
  | .map => Option Nat
  | .iface => Value
  | .fn => Value
  | .nil => Unit
  | .pair a b => Den a × Den b
  | .arr n a => Fin n → Den a

def Kd.size : Kd → Nat
  | .nil => 0
  | .pair a b => a.size + b.size
  | .arr n a => n * a.size
  | _ => 1

def Kd.isAgg : Kd → Bool
  | .nil | .pair .. | .arr .. => true
  | _ => false

/-- A value's cells. -/
def Kd.cells : (k : Kd) → Den k → List Value
  | .int k, x => [.int k x]
  | .bool, x => [.bool x]
  | .str, x => [.string x]
  | .sl, x => [x.val]
  | .ptr, x => [.pointer x]
  | .map, x => [.map x]
  | .iface, x => [x]
  | .fn, x => [x]
  | .nil, _ => []
  | .pair a b, x => a.cells x.1 ++ b.cells x.2
  | .arr n a, x => (List.ofFn x).flatMap a.cells

def Kd.val : (k : Kd) → Den k → Value
  | .int k, x => .int k x
  | .bool, x => .bool x
  | .str, x => .string x
  | .sl, x => x.val
  | .ptr, x => .pointer x
  | .map, x => .map x
  | .iface, x => x
  | .fn, x => x
  | .nil, x => .agg (Kd.cells .nil x).toArray
  | .pair a b, x => .agg (Kd.cells (.pair a b) x).toArray
  | .arr n a, x => .agg (Kd.cells (.arr n a) x).toArray

theorem flatMap_len {α : Type} (f : α → List Value) (m : Nat) (hf : ∀ x, (f x).length = m) (l : List α) : (l.flatMap f).length = l.length * m := by
  induction l with
  | nil => simp
  | cons x l ih => simp [List.flatMap_cons, hf, ih, Nat.succ_mul, Nat.add_comm]

theorem Kd.cells_len : (k : Kd) → (x : Den k) → (k.cells x).length = k.size
  | .int _, _ | .bool, _ | .str, _ | .sl, _ | .ptr, _ | .map, _ | .iface, _ | .fn, _ | .nil, _ => rfl
  | .pair a b, x => by simp [Kd.cells, Kd.size, a.cells_len, b.cells_len]
  | .arr n a, x => by
    simp only [Kd.cells, Kd.size]
    rw [flatMap_len a.cells a.size (fun y => a.cells_len y)]
    simp

theorem Kd.val_agg {k : Kd} (h : k.isAgg = true) (x : Den k) : k.val x = .agg (k.cells x).toArray := by
  cases k <;> first | rfl | cases h
theorem Kd.cells_one {k : Kd} (h : k.isAgg = false) (x : Den k) : k.cells x = [k.val x] := by
  cases k <;> first | rfl | cases h
/-- 'Value.cells' of a value, raw values apart. -/
def Kd.plain : Kd → Bool
  | .iface | .fn => false
  | _ => true
theorem Kd.val_cells {k : Kd} (h : k.plain = true) (x : Den k) : (k.val x).cells = (k.cells x).toArray := by
  cases k <;> first | rfl | cases h

def Kd.zero : (k : Kd) → Den k
  | .int _ => 0
  | .bool => false
  | .str => ByteArray.empty
  | .sl => Sl.none
  | .ptr => none
  | .map => none
  | .iface => .nilIface
  | .fn => .nilFunc
  | .nil => ()
  | .pair a b => (a.zero, b.zero)
  | .arr _ a => fun _ => a.zero

end Go.Mx
