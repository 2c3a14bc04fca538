/-
  The abstract heap: what is known of the world's memory, block by block; kinds of values and their cells; the relation between an abstract state and the machine's.
  What a type is of kind; values in slots as far as they are known; local variables in blocks of their own, by their entries.
-/
import Derived.Orders
import Derived.Laws.World
import Derived.KernelRfl
set_option linter.unusedVariables false
set_option linter.unusedSimpArgs false
namespace Go.Mx

inductive HObj where
  | cells (cs : List Value) (ro : Bool)
  | map (es : Array MapEntry) (clock : Nat)
  | raw (o : Obj)

abbrev Heap := Nat → Option HObj
def upd (h : Heap) (b : Nat) (o : HObj) : Heap := fun x => if x = b then some o else h x
theorem upd_same (h : Heap) (b : Nat) (o : HObj) : upd h b o b = some o := by simp [upd]
theorem upd_ne (h : Heap) {b c : Nat} (o : HObj) (e : c ≠ b) : upd h b o c = h c := by simp [upd, e]
def Is : HObj → Obj → Prop
  | .cells cs ro, o => ∃ t f, o = .cells cs.toArray t f ∧ (ro = false → f = (0, 0))
  | .map es c, o => o = .map es c
  | .raw x, o => o = x
def Sub (h : Heap) (w : World) : Prop := ∀ b o, h b = some o → ∃ x, w.heap[b]? = some x ∧ Is o x

def tagOf : Option Obj → Option (TypeId × (Nat × Nat))
  | some (.cells _ t f) => some (t, f)
  | _ => none

structure Inv (h0 : Heap) (w0 : World) (h : Heap) (w : World) : Prop where
  sub : Sub h w
  size : w0.heap.size ≤ w.heap.size
  keep : ∀ b, b < w0.heap.size → h0 b = none → w.heap[b]? = w0.heap[b]? ∧ h b = none
  tag : ∀ b, b < w0.heap.size → tagOf w.heap[b]? = tagOf w0.heap[b]?
  os : w.os = w0.os
  tape : w.tape = w0.tape
  out : w.output = w0.output

theorem Sub.lt {h : Heap} {w : World} (s : Sub h w) {b : Nat} {o : HObj} (e : h b = some o) : b < w.heap.size := by
  obtain ⟨x, hx, _⟩ := s b o e
  exact (Array.getElem?_eq_some_iff.1 hx).1

theorem Inv.refl {h : Heap} {w : World} (s : Sub h w) : Inv h w h w := ⟨s, Nat.le_refl _, fun _ _ e => ⟨rfl, e⟩, fun _ _ => rfl, rfl, rfl, rfl⟩

theorem Inv.trans {h0 h1 h2 : Heap} {w0 w1 w2 : World} (a : Inv h0 w0 h1 w1) (b : Inv h1 w1 h2 w2) : Inv h0 w0 h2 w2 where
  sub := b.sub
  size := Nat.le_trans a.size b.size
  keep x hx e := by
    obtain ⟨e1, e2⟩ := a.keep x hx e
    obtain ⟨e3, e4⟩ := b.keep x (Nat.lt_of_lt_of_le hx a.size) e2
    exact ⟨e3.trans e1, e4⟩
  tag x hx := (b.tag x (Nat.lt_of_lt_of_le hx a.size)).trans (a.tag x hx)
  os := b.os.trans a.os
  tape := b.tape.trans a.tape
  out := b.out.trans a.out

theorem Inv.drew {h0 h : Heap} {w0 w : World} (a : Inv h0 w0 h w) (n : Nat) : Inv h0 w0 h { w with drawn := n } :=
  ⟨a.sub, a.size, a.keep, a.tag, a.os, a.tape, a.out⟩

theorem Inv.less {h0 h h' : Heap} {w0 w : World} (a : Inv h0 w0 h w) (l : ∀ b o, h' b = some o → h b = some o) : Inv h0 w0 h' w where
  sub b o e := a.sub b o (l b o e)
  size := a.size
  keep b hb e := ⟨(a.keep b hb e).1, by
    cases e' : h' b with
    | none => rfl
    | some o => have := l b o e'; rw [(a.keep b hb e).2] at this; cases this⟩
  tag := a.tag
  os := a.os
  tape := a.tape
  out := a.out

theorem heap_alloc_old (w : World) (o : Obj) {b : Nat} (hb : b < w.heap.size) : (w.alloc o).heap[b]? = w.heap[b]? := by
  show (w.heap.push o)[b]? = _
  rw [Array.getElem?_push, if_neg (by omega)]
theorem heap_alloc_new (w : World) (o : Obj) : (w.alloc o).heap[w.heap.size]? = some o := by
  show (w.heap.push o)[w.heap.size]? = _
  simp
theorem size_alloc (w : World) (o : Obj) : (w.alloc o).heap.size = w.heap.size + 1 := by
  show (w.heap.push o).size = _
  simp

theorem none_of_size {h : Heap} {w : World} (s : Sub h w) : h w.heap.size = none := by
  cases e : h w.heap.size with
  | none => rfl
  | some o => have := s.lt e; omega

theorem Inv.hide {h0 h : Heap} {w0 w : World} (a : Inv h0 w0 h w) (o : Obj) : Inv h0 w0 h (w.alloc o) where
  sub b x e := by
    have hb := a.sub.lt e
    rw [heap_alloc_old w o hb]; exact a.sub b x e
  size := by rw [size_alloc]; have := a.size; omega
  keep b hb e := by
    have := a.size
    rw [heap_alloc_old w o (by omega)]; exact a.keep b hb e
  tag b hb := by
    have := a.size
    rw [heap_alloc_old w o (by omega)]; exact a.tag b hb
  os := a.os
  tape := a.tape
  out := a.out

theorem Inv.new {h0 h : Heap} {w0 w : World} (a : Inv h0 w0 h w) {o : Obj} {x : HObj} (i : Is x o) : Inv h0 w0 (upd h w.heap.size x) (w.alloc o) where
  sub b y e := by
    by_cases hb : b = w.heap.size
    · subst hb
      rw [upd_same] at e; cases e
      exact ⟨o, heap_alloc_new w o, i⟩
    · rw [upd_ne h x hb] at e
      rw [heap_alloc_old w o (a.sub.lt e)]; exact a.sub b y e
  size := by rw [size_alloc]; have := a.size; omega
  keep b hb e := by
    have := a.size
    rw [heap_alloc_old w o (by omega), upd_ne h x (by omega)]; exact a.keep b hb e
  tag b hb := by
    have := a.size
    rw [heap_alloc_old w o (by omega)]; exact a.tag b hb
  os := a.os
  tape := a.tape
  out := a.out

def cell (h : Heap) (a : Addr) : Option Value :=
  match h a.block with
  | some (.cells cs _) => if a.spot.isSome then none else cs[a.off]?
  | _ => none

theorem cell_sound {h : Heap} {w : World} (s : Sub h w) {a : Addr} {v : Value} (e : cell h a = some v) : w.cell? a = some v := by
  unfold cell at e
  split at e
  · rename_i cs ro hb
    obtain ⟨x, hx, t, f, rfl, _⟩ := s _ _ hb
    unfold World.cell?
    rw [hx]
    simp only
    split at e
    · cases e
    · rename_i hs
      simp [hs, e]
  · cases e

def cellsAt (h : Heap) (a : Addr) (l : List Value) : Prop := ∀ j v, l[j]? = some v → cell h (a.add j) = some v

def canWrite (h : Heap) (a : Addr) (n : Nat) : Prop := a.spot = none ∧ ∃ cs, h a.block = some (.cells cs false) ∧ a.off + n ≤ cs.length

def splice (cs : List Value) (off : Nat) (l : List Value) : List Value := cs.take off ++ l ++ cs.drop (off + l.length)
def write (h : Heap) (a : Addr) (l : List Value) : Heap :=
  match h a.block with
  | some (.cells cs ro) => upd h a.block (.cells (splice cs a.off l) ro)
  | _ => h

inductive Kd where
  | int (k : IntKind) | bool | str | sl | ptr | map | iface | fn | nil
  | pair (a b : Kd)
  | arr (n : Nat) (a : Kd)
  deriving DecidableEq

structure Sl where
  a : Option Addr
  len : Nat
  cap : Nat
  deriving DecidableEq

def Sl.val (s : Sl) : Value := .slice s.a s.len s.cap
def Sl.none : Sl := ⟨.none, 0, 0⟩

abbrev Den : Kd → Type
  | .int _ => Int
  | .bool => Bool
  | .str => ByteArray
  | .sl => Sl
  | .ptr => Option Addr
  | .map => Option Nat
  | .iface => Value
  | .fn => Value
  | .nil => Unit
  | .pair a b => Den a × Den b
  | .arr n a => Fin n → Den a

def Kd.size : Kd → Nat
  | .nil => 0
  | .pair a b => a.size + b.size
  | .arr n a => n * a.size
  | _ => 1

def Kd.isAgg : Kd → Bool
  | .nil | .pair .. | .arr .. => true
  | _ => false

def Kd.cells : (k : Kd) → Den k → List Value
  | .int k, x => [.int k x]
  | .bool, x => [.bool x]
  | .str, x => [.string x]
  | .sl, x => [x.val]
  | .ptr, x => [.pointer x]
  | .map, x => [.map x]
  | .iface, x => [x]
  | .fn, x => [x]
  | .nil, _ => []
  | .pair a b, x => a.cells x.1 ++ b.cells x.2
  | .arr n a, x => (List.ofFn x).flatMap a.cells

def Kd.val : (k : Kd) → Den k → Value
  | .int k, x => .int k x
  | .bool, x => .bool x
  | .str, x => .string x
  | .sl, x => x.val
  | .ptr, x => .pointer x
  | .map, x => .map x
  | .iface, x => x
  | .fn, x => x
  | .nil, x => .agg (Kd.cells .nil x).toArray
  | .pair a b, x => .agg (Kd.cells (.pair a b) x).toArray
  | .arr n a, x => .agg (Kd.cells (.arr n a) x).toArray

theorem flatMap_len {α : Type} (f : α → List Value) (m : Nat) (hf : ∀ x, (f x).length = m) (l : List α) : (l.flatMap f).length = l.length * m := by
  induction l with
  | nil => simp
  | cons x l ih => simp [List.flatMap_cons, hf, ih, Nat.succ_mul, Nat.add_comm]

theorem Kd.cells_len : (k : Kd) → (x : Den k) → (k.cells x).length = k.size
  | .int _, _ | .bool, _ | .str, _ | .sl, _ | .ptr, _ | .map, _ | .iface, _ | .fn, _ | .nil, _ => rfl
  | .pair a b, x => by simp [Kd.cells, Kd.size, a.cells_len, b.cells_len]
  | .arr n a, x => by
    simp only [Kd.cells, Kd.size]
    rw [flatMap_len a.cells a.size (fun y => a.cells_len y)]
    simp

theorem Kd.val_agg {k : Kd} (h : k.isAgg = true) (x : Den k) : k.val x = .agg (k.cells x).toArray := by
  cases k <;> first | rfl | cases h
theorem Kd.cells_one {k : Kd} (h : k.isAgg = false) (x : Den k) : k.cells x = [k.val x] := by
  cases k <;> first | rfl | cases h
def Kd.plain : Kd → Bool
  | .iface | .fn => false
  | _ => true
theorem Kd.val_cells {k : Kd} (h : k.plain = true) (x : Den k) : (k.val x).cells = (k.cells x).toArray := by
  cases k <;> first | rfl | cases h

def Kd.zero : (k : Kd) → Den k
  | .int _ => 0
  | .bool => false
  | .str => ByteArray.empty
  | .sl => Sl.none
  | .ptr => none
  | .map => none
  | .iface => .nilIface
  | .fn => .nilFunc
  | .nil => ()
  | .pair a b => (a.zero, b.zero)
  | .arr _ a => fun _ => a.zero

end Go.Mx

namespace Go.Mx

def zeroCells : Kd → List Value → Option (List Value)
  | .int k, l => match l with | .int k' n :: r => if k = k' ∧ n = 0 then some r else none | _ => none
  | .bool, l => match l with | .bool false :: r => some r | _ => none
  | .str, l => match l with | .string s :: r => if s.size = 0 then some r else none | _ => none
  | .sl, l => match l with | .slice none 0 0 :: r => some r | _ => none
  | .ptr, l => match l with | .pointer none :: r => some r | _ => none
  | .map, l => match l with | .map none :: r => some r | _ => none
  | .iface, l => match l with | .nilIface :: r => some r | _ => none
  | .fn, l => match l with | .nilFunc :: r => some r | _ => none
  | .nil, r => some r
  | .pair a b, r => (zeroCells a r).bind (zeroCells b)
  | .arr n a, r => Nat.rec (some r) (fun _ x => x.bind (zeroCells a)) n

theorem zeroCells_spec : ∀ (k : Kd) (l r : List Value), zeroCells k l = some r → l = k.cells k.zero ++ r := by
  intro k
  induction k with
  | nil => intro l r h; simp [zeroCells] at h; simp [Kd.cells, h]
  | pair a b iha ihb =>
    intro l r h
    simp only [zeroCells, Option.bind_eq_some_iff] at h
    obtain ⟨m, h1, h2⟩ := h
    rw [iha _ _ h1, ihb _ _ h2]
    simp [Kd.cells, Kd.zero]
  | arr n a ih =>
    intro l r h
    simp only [zeroCells] at h
    have key : ∀ n l r, (Nat.rec (some l) (fun _ x => x.bind (zeroCells a)) n : Option (List Value)) = some r → l = (List.replicate n (a.cells a.zero)).flatten ++ r := by
      intro n
      induction n with
      | zero => intro l r h; cases h; simp
      | succ n ihn =>
        intro l r h
        simp only [Option.bind_eq_some_iff] at h
        obtain ⟨m, h1, h2⟩ := h
        have e := ihn _ _ h1
        rw [e, ih _ _ h2]
        simp [List.replicate_succ']
    rw [key n l r h]
    congr 1
    simp only [Kd.cells, Kd.zero]
    rw [List.flatMap_def]
    congr 1
    apply List.ext_getElem <;> simp
  | int k =>
    intro l r h
    simp only [zeroCells] at h
    split at h
    · split at h
      · rename_i c; obtain ⟨rfl, rfl⟩ := c; cases h; rfl
      · cases h
    · cases h
  | str =>
    intro l r h
    simp only [zeroCells] at h
    split at h
    · rename_i s q
      split at h
      · rename_i h1
        cases h
        have : s = ByteArray.empty := by
          cases s with
          | mk d => simp [ByteArray.size] at h1; subst h1; rfl
        subst this; rfl
      · cases h
    · cases h
  | _ =>
    intro l r h
    simp only [zeroCells] at h
    split at h
    · cases h; rfl
    · cases h

def zeroOk (k : Kd) : Option Value → Bool
  | some (.agg cs) => k.isAgg && (match zeroCells k cs.toList with | some [] => true | _ => false)
  | some v => !k.isAgg && (match zeroCells k [v] with | some [] => true | _ => false)
  | none => false

theorem zeroOk_spec {k : Kd} {z : Option Value} (h : zeroOk k z = true) : z = some (k.val k.zero) := by
  cases z with
  | none => simp [zeroOk] at h
  | some v =>
    cases v with
    | agg cs =>
      simp only [zeroOk, Bool.and_eq_true] at h
      obtain ⟨ha, h⟩ := h
      split at h
      · rename_i h1
        have := zeroCells_spec _ _ _ h1
        rw [Kd.val_agg ha]
        simp at this
        rw [← this]
      · cases h
    | _ =>
      simp only [zeroOk, Bool.and_eq_true, Bool.not_eq_true'] at h
      obtain ⟨ha, h⟩ := h
      split at h
      · rename_i h1
        have := zeroCells_spec _ _ _ h1
        rw [Kd.cells_one ha] at this
        simp at this
        rw [← this]
      · cases h

def aggD : TypeDesc → Bool
  | .struct _ | .array _ _ => true
  | _ => false

def kdOf (P : Program) : Nat → TypeId → Option Kd
  | 0, _ => none
  | n + 1, T =>
    match P.info? T, P.underlying T with
    | some i, some d =>
      let k? : Option Kd := match d with
        | .bool => some .bool
        | .int k => some (.int k)
        | .string => some .str
        | .slice _ => some .sl
        | .pointer _ => some .ptr
        | .map _ _ => some .map
        | .func _ _ _ => some .fn
        | .interface _ => some .iface
        | .struct fs => fs.toList.foldr (fun f acc => match kdOf P n f.type, acc with | some a, some b => some (.pair a b) | _, _ => none) (some .nil)
        | .array m e => (kdOf P n e).map (.arr m)
        | _ => none
      match k? with
      | some k => if i.size == k.size && aggD d == k.isAgg && zeroOk k i.zero then some k else none
      | none => none
    | _, _ => none

theorem kdOf_spec {P : Program} {n : Nat} {T : TypeId} {k : Kd} (h : kdOf P n T = some k) :
    ∃ i d, P.info? T = some i ∧ P.underlying T = some d ∧ i.size = k.size ∧ aggD d = k.isAgg ∧ i.zero = some (k.val k.zero) := by
  cases n with
  | zero => simp [kdOf] at h
  | succ n =>
    simp only [kdOf] at h
    split at h
    · rename_i i d hi hd
      split at h
      · rename_i k' hk
        split at h
        · rename_i hc
          simp only [Bool.and_eq_true, beq_iff_eq] at hc
          cases h
          exact ⟨i, d, hi, hd, hc.1.1, hc.1.2, zeroOk_spec hc.2⟩
        · cases h
      · cases h
    · cases h

section
variable {P : Program} {n : Nat} {T : TypeId} {k : Kd} (hk : kdOf P n T = some k) (w : World)
include hk
theorem run_isAgg : (isAgg T).run P w = .ok k.isAgg w := by
  obtain ⟨i, d, hi, hd, _, ha, _⟩ := kdOf_spec hk
  simp only [isAgg, underlying, program, bind, Sem.bind, Sem.run, hd]
  cases d <;> simp [aggD] at ha <;> simp [pure, Sem.bind, Sem.run, ← ha]
theorem run_sizeOf : (sizeOf T).run P w = .ok k.size w := by
  obtain ⟨i, d, hi, hd, hs, _, _⟩ := kdOf_spec hk
  simp [sizeOf, typeInfo, program, bind, pure, Sem.bind, Sem.run, hi, hs]
theorem run_zeroValue : (zeroValue T).run P w = .ok (k.val k.zero) w := by
  obtain ⟨i, d, hi, hd, _, _, hz⟩ := kdOf_spec hk
  simp [zeroValue, typeInfo, program, bind, pure, Sem.bind, Sem.run, hi, hz]
end

structure Ent where
  k : Kd
  x : Den k

def Ent.cells (e : Ent) : List Value := e.k.cells e.x
def Ent.size (e : Ent) : Nat := e.k.size
theorem Ent.cells_len (e : Ent) : e.cells.length = e.size := e.k.cells_len e.x
def entCells : List Ent → List Value
  | [] => []
  | e :: r => e.cells ++ entCells r
def entSize : List Ent → Nat
  | [] => 0
  | e :: r => e.size + entSize r
theorem entCells_len (l : List Ent) : (entCells l).length = entSize l := by
  induction l with
  | nil => rfl
  | cons e r ih => simp [entCells, entSize, ih, Ent.cells_len]
theorem entCells_append (l r : List Ent) : entCells (l ++ r) = entCells l ++ entCells r := by
  induction l with
  | nil => rfl
  | cons e l ih => simp [entCells, ih]
theorem entSize_append (l r : List Ent) : entSize (l ++ r) = entSize l + entSize r := by
  induction l with
  | nil => simp [entSize]
  | cons e l ih => simp [entSize, ih, Nat.add_assoc]

def Kd.dis : (k : Kd) → Den k → List Ent
  | .nil, _ => []
  | .pair a b, x => a.dis x.1 ++ b.dis x.2
  | .int k, x => [⟨.int k, x⟩]
  | .bool, x => [⟨.bool, x⟩]
  | .str, x => [⟨.str, x⟩]
  | .sl, x => [⟨.sl, x⟩]
  | .ptr, x => [⟨.ptr, x⟩]
  | .map, x => [⟨.map, x⟩]
  | .iface, x => [⟨.iface, x⟩]
  | .fn, x => [⟨.fn, x⟩]
  | .arr n a, x => [⟨.arr n a, x⟩]
theorem Kd.dis_cells : (k : Kd) → (x : Den k) → entCells (k.dis x) = k.cells x
  | .nil, _ => rfl
  | .pair a b, x => by simp [Kd.dis, Kd.cells, entCells_append, a.dis_cells, b.dis_cells]
  | .int _, _ | .bool, _ | .str, _ | .sl, _ | .ptr, _ | .map, _ | .iface, _ | .fn, _ | .arr _ _, _ => by simp [Kd.dis, entCells, Ent.cells, Kd.cells]

def one (k : Kd) : List Ent → Option (Den k × List Ent)
  | e :: r => if h : e.k = k then some (h ▸ e.x, r) else none
  | [] => none
theorem one_spec {k : Kd} {l r : List Ent} {x : Den k} (h : one k l = some (x, r)) : entCells l = k.cells x ++ entCells r := by
  cases l with
  | nil => simp [one] at h
  | cons e l =>
    obtain ⟨ke, xe⟩ := e
    simp only [one] at h
    split at h
    · rename_i hk
      subst hk
      simp at h
      obtain ⟨rfl, rfl⟩ := h
      rfl
    · cases h

def Kd.asm : (k : Kd) → List Ent → Option (Den k × List Ent)
  | .nil, l => some ((), l)
  | .pair a b, l => match a.asm l with
    | some (x, r) => match b.asm r with
      | some (y, r') => some ((x, y), r')
      | none => none
    | none => none
  | .int k, l => one (.int k) l
  | .bool, l => one .bool l
  | .str, l => one .str l
  | .sl, l => one .sl l
  | .ptr, l => one .ptr l
  | .map, l => one .map l
  | .iface, l => one .iface l
  | .fn, l => one .fn l
  | .arr n a, l => one (.arr n a) l
theorem Kd.asm_spec : ∀ (k : Kd) (l r : List Ent) (x : Den k), k.asm l = some (x, r) → entCells l = k.cells x ++ entCells r
  | .nil, l, r, x, h => by simp [Kd.asm] at h; simp [Kd.cells, h]
  | .pair a b, l, r, x, h => by
    simp only [Kd.asm] at h
    split at h
    · rename_i y r1 h1
      split at h
      · rename_i z r2 h2
        simp at h
        obtain ⟨rfl, rfl⟩ := h
        rw [a.asm_spec _ _ _ h1, b.asm_spec _ _ _ h2]
        simp [Kd.cells]
      · cases h
    · cases h
  | .int _, _, _, _, h | .bool, _, _, _, h | .str, _, _, _, h | .sl, _, _, _, h | .ptr, _, _, _, h | .map, _, _, _, h | .iface, _, _, _, h | .fn, _, _, _, h | .arr _ _, _, _, _, h => one_spec h

def skip : List Ent → Nat → Option (List Ent)
  | l, 0 => some l
  | [], _ + 1 => none
  | e :: r, n + 1 => if e.size ≤ n + 1 then skip r (n + 1 - e.size) else none
theorem skip_spec : ∀ (l : List Ent) (n : Nat) (r : List Ent), skip l n = some r → ∃ p, l = p ++ r ∧ entSize p = n
  | l, 0, r, h => by simp [skip] at h; exact ⟨[], by simp [h], rfl⟩
  | [], n + 1, r, h => by simp [skip] at h
  | e :: l, n + 1, r, h => by
    simp only [skip] at h
    split at h
    · rename_i hs
      obtain ⟨p, rfl, hp⟩ := skip_spec l _ r h
      exact ⟨e :: p, rfl, by simp [entSize, hp]; omega⟩
    · cases h
def upto : List Ent → Nat → List Ent
  | _, 0 => []
  | [], _ + 1 => []
  | e :: r, n + 1 => e :: upto r (n + 1 - e.size)
theorem upto_spec : ∀ (l : List Ent) (n : Nat) (r : List Ent), skip l n = some r → upto l n ++ r = l
  | l, 0, r, h => by simp [skip] at h; simp [upto, h]
  | [], n + 1, r, h => by simp [skip] at h
  | e :: l, n + 1, r, h => by
    simp only [skip] at h
    split at h
    · simp [upto, upto_spec l _ r h]
    · cases h
theorem upto_size {l : List Ent} {n : Nat} {r : List Ent} (h : skip l n = some r) : entSize (upto l n) = n := by
  obtain ⟨p, hp, hs⟩ := skip_spec l n r h
  have := upto_spec l n r h
  rw [hp] at this
  have e := List.append_cancel_right this
  have : upto l n = p := by rw [hp]; exact e
  rw [this, hs]

def getBox (k : Kd) (l : List Ent) (off : Nat) : Option (Den k) :=
  match skip l off with
  | some r => match k.asm r with
    | some (x, _) => some x
    | none => none
  | none => none
theorem getBox_spec {k : Kd} {l : List Ent} {off : Nat} {x : Den k} (h : getBox k l off = some x) :
    ∃ p r, entCells l = p ++ k.cells x ++ r ∧ p.length = off := by
  unfold getBox at h
  split at h
  · rename_i m hm
    split at h
    · rename_i y r hy
      cases h
      obtain ⟨p, rfl, hp⟩ := skip_spec _ _ _ hm
      refine ⟨entCells p, entCells r, ?_, by rw [entCells_len, hp]⟩
      rw [entCells_append, Kd.asm_spec _ _ _ _ hy, List.append_assoc]
    · cases h
  · cases h
def putBox (l : List Ent) (off : Nat) (new : List Ent) : Option (List Ent) :=
  match skip l off with
  | some r => match skip r (entSize new) with
    | some q => some (upto l off ++ (new ++ q))
    | none => none
  | none => none
theorem putBox_spec {l m : List Ent} {off : Nat} {new : List Ent} (h : putBox l off new = some m) :
    entCells m = splice (entCells l) off (entCells new) ∧ off + entSize new ≤ entSize l := by
  unfold putBox at h
  split at h
  · rename_i r hr
    split at h
    · rename_i q hq
      cases h
      have e := upto_spec _ _ _ hr
      have s := upto_size hr
      obtain ⟨p, rfl, hp⟩ := skip_spec _ _ _ hq
      have c : entCells l = entCells (upto l off) ++ (entCells p ++ entCells q) := by
        rw [← entCells_append, ← entCells_append, e]
      have l1 : (entCells (upto l off)).length = off := by rw [entCells_len, s]
      have l2 : (entCells p).length = (entCells new).length := by rw [entCells_len, entCells_len, hp]
      refine ⟨?_, ?_⟩
      · rw [entCells_append, entCells_append, c]
        unfold splice
        rw [List.take_left' l1, ← List.drop_drop, List.drop_left' l1, List.drop_left' l2, List.append_assoc]
      · rw [← e, entSize_append, entSize_append, s, hp]; omega
    · cases h
  · cases h

def aget {n : Nat} {a : Kd} (f : Fin n → Den a) (i : Nat) : Den a := if h : i < n then f ⟨i, h⟩ else a.zero
def aset {n : Nat} {a : Kd} (f : Fin n → Den a) (i : Nat) (x : Den a) : Fin n → Den a := fun j => if j.val = i then x else f j

end Go.Mx
