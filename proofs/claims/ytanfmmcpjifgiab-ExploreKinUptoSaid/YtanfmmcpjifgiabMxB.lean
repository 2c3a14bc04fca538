/-
  What a type is of kind; values in slots as far as they are known; local variables in blocks of their own, by their entries.
-/
import Derived.Test.YtanfmmcpjifgiabMxA
set_option linter.unusedVariables false
set_option linter.unusedSimpArgs false
namespace Go.Mx

/-! ### types -/
def zeroCells : Kd → List Value → Option (List Value)
  | .int k, l => match l with | .int k' n :: r => if k = k' ∧ n = 0 then some r else none | _ => none
  | .bool, l => match l with | .bool false :: r => some r | _ => none
  | .str, l => match l with | .string s :: r => if s.size = 0 then some r else none | _ => none
  | .sl, l => match l with | .slice none 0 0 :: r => some r | _ => none
  | .ptr, l => match l with | .pointer none :: r => some r | _ => none
  | .map, l => match l with | .map none :: r => some r | _ => none
  | .iface, l => match l with | .nilIface :: r => some r | _ => none
  | .fn, l => match l with | .nilFunc :: r => some r | _ => none
  | .nil, r => some r
  | .pair a b, r => (zeroCells a r).bind (zeroCells b)
  | .arr n a, r => Nat.rec (some r) (fun _ x => x.bind (zeroCells a)) n

theorem zeroCells_spec : ∀ (k : Kd) (l r : List Value), zeroCells k l = some r → l = k.cells k.zero ++ r := by
  intro k
  induction k with
  | nil => intro l r h; simp [zeroCells] at h; simp [Kd.cells, h]
  | pair a b iha ihb =>
    intro l r h
    simp only [zeroCells, Option.bind_eq_some_iff] at h
    obtain ⟨m, h1, h2⟩ := h
    rw [iha _ _ h1, ihb _ _ h2]
    simp [Kd.cells, Kd.zero]
  | arr n a ih =>
    intro l r h
    simp only [zeroCells] at h
    have key : ∀ n l r, (Nat.rec (some l) (fun _ x => x.bind (zeroCells a)) n : Option (List Value)) = some r → l = (List.replicate n (a.cells a.zero)).flatten ++ r := by
      intro n
      induction n with
      | zero => intro l r h; cases h; simp
      | succ n ihn =>
        intro l r h
        simp only [Option.bind_eq_some_iff] at h
        obtain ⟨m, h1, h2⟩ := h
        have e := ihn _ _ h1
        rw [e, ih _ _ h2]
        simp [List.replicate_succ']
    rw [key n l r h]
    congr 1
    simp only [Kd.cells, Kd.zero]
    rw [List.flatMap_def]
    congr 1
    apply List.ext_getElem <;> simp
  | int k =>
    intro l r h
    simp only [zeroCells] at h
    split at h
    · split at h
      · rename_i c; obtain ⟨rfl, rfl⟩ := c; cases h; rfl
      · cases h
    · cases h
  | str =>
    intro l r h
    simp only [zeroCells] at h
    split at h
    · rename_i s q
      split at h
      · rename_i h1
        cases h
        have : s = ByteArray.empty := by
          cases s with
          | mk d => simp [ByteArray.size] at h1; subst h1; rfl
        subst this; rfl
      · cases h
    · cases h
  | _ =>
    intro l r h
    simp only [zeroCells] at h
    split at h
    · cases h; rfl
    · cases h

def zeroOk (k : Kd) : Option Value → Bool
  | some (.agg cs) => k.isAgg && (match zeroCells k cs.toList with | some [] => true | _ => false)
  | some v => !k.isAgg && (match zeroCells k [v] with | some [] => true | _ => false)
  | none => false

theorem zeroOk_spec {k : Kd} {z : Option Value} (h : zeroOk k z = true) : z = some (k.val k.zero) := by
  cases z with
  | none => simp [zeroOk] at h
  | some v =>
    cases v with
    | agg cs =>
      simp only [zeroOk, Bool.and_eq_true] at h
      obtain ⟨ha, h⟩ := h
      split at h
      · rename_i h1
        have := zeroCells_spec _ _ _ h1
        rw [Kd.val_agg ha]
        simp at this
        rw [← this]
      · cases h
    | _ =>
      simp only [zeroOk, Bool.and_eq_true, Bool.not_eq_true'] at h
      obtain ⟨ha, h⟩ := h
      split at h
      · rename_i h1
        have := zeroCells_spec _ _ _ h1
        rw [Kd.cells_one ha] at this
        simp at this
        rw [← this]
      · cases h

def aggD : TypeDesc → Bool
  | .struct _ | .array _ _ => true
  | _ => false

/-- The kind of a type. -/
def kdOf (P : Program) : Nat → TypeId → Option Kd
  | 0, _ => none
  | n + 1, T =>
    match P.info? T, P.underlying T with
    | some i, some d =>
      let k? : Option Kd := match d with
        | .bool => some .bool
        | .int k => some (.int k)
        | .string => some .str
        | .slice _ => some .sl
        | .pointer _ => some .ptr
        | .map _ _ => some .map
        | .func _ _ _ => some .fn
        | .interface _ => some .iface
        | .struct fs => fs.toList.foldr (fun f acc => match kdOf P n f.type, acc with | some a, some b => some (.pair a b) | _, _ => none) (some .nil)
        | .array m e => (kdOf P n e).map (.arr m)
        | _ => none
      match k? with
      | some k => if i.size == k.size && aggD d == k.isAgg && zeroOk k i.zero then some k else none
      | none => none
    | _, _ => none

theorem kdOf_spec {P : Program} {n : Nat} {T : TypeId} {k : Kd} (h : kdOf P n T = some k) :
    ∃ i d, P.info? T = some i ∧ P.underlying T = some d ∧ i.size = k.size ∧ aggD d = k.isAgg ∧ i.zero = some (k.val k.zero) := by
  cases n with
  | zero => simp [kdOf] at h
  | succ n =>
    simp only [kdOf] at h
    split at h
    · rename_i i d hi hd
      split at h
      · rename_i k' hk
        split at h
        · rename_i hc
          simp only [Bool.and_eq_true, beq_iff_eq] at hc
          cases h
          exact ⟨i, d, hi, hd, hc.1.1, hc.1.2, zeroOk_spec hc.2⟩
        · cases h
      · cases h
    · cases h

section
variable {P : Program} {n : Nat} {T : TypeId} {k : Kd} (hk : kdOf P n T = some k) (w : World)
include hk
theorem run_isAgg : (isAgg T).run P w = .ok k.isAgg w := by
  obtain ⟨i, d, hi, hd, _, ha, _⟩ := kdOf_spec hk
  simp only [isAgg, underlying, program, bind, Sem.bind, Sem.run, hd]
  cases d <;> simp [aggD] at ha <;> simp [pure, Sem.bind, Sem.run, ← ha]
theorem run_sizeOf : (sizeOf T).run P w = .ok k.size w := by
  obtain ⟨i, d, hi, hd, hs, _, _⟩ := kdOf_spec hk
  simp [sizeOf, typeInfo, program, bind, pure, Sem.bind, Sem.run, hi, hs]
theorem run_zeroValue : (zeroValue T).run P w = .ok (k.val k.zero) w := by
  obtain ⟨i, d, hi, hd, _, _, hz⟩ := kdOf_spec hk
  simp [zeroValue, typeInfo, program, bind, pure, Sem.bind, Sem.run, hi, hz]
end

/-! ### entries -/
structure Ent where
  k : Kd
  x : Den k

def Ent.cells (e : Ent) : List Value := e.k.cells e.x
def Ent.size (e : Ent) : Nat := e.k.size
theorem Ent.cells_len (e : Ent) : e.cells.length = e.size := e.k.cells_len e.x
def entCells : List Ent → List Value
  | [] => []
  | e :: r => e.cells ++ entCells r
def entSize : List Ent → Nat
  | [] => 0
  | e :: r => e.size + entSize r
theorem entCells_len (l : List Ent) : (entCells l).length = entSize l := by
  induction l with
  | nil => rfl
  | cons e r ih => simp [entCells, entSize, ih, Ent.cells_len]
theorem entCells_append (l r : List Ent) : entCells (l ++ r) = entCells l ++ entCells r := by
  induction l with
  | nil => rfl
  | cons e l ih => simp [entCells, ih]
theorem entSize_append (l r : List Ent) : entSize (l ++ r) = entSize l + entSize r := by
  induction l with
  | nil => simp [entSize]
  | cons e l ih => simp [entSize, ih, Nat.add_assoc]

/-- A value's entries: its whole numbers, strings .. one by one, an array as one. -/
def Kd.dis : (k : Kd) → Den k → List Ent
  | .nil, _ => []
  | .pair a b, x => a.dis x.1 ++ b.dis x.2
  | .int k, x => [⟨.int k, x⟩]
  | .bool, x => [⟨.bool, x⟩]
  | .str, x => [⟨.str, x⟩]
  | .sl, x => [⟨.sl, x⟩]
  | .ptr, x => [⟨.ptr, x⟩]
  | .map, x => [⟨.map, x⟩]
  | .iface, x => [⟨.iface, x⟩]
  | .fn, x => [⟨.fn, x⟩]
  | .arr n a, x => [⟨.arr n a, x⟩]
theorem Kd.dis_cells : (k : Kd) → (x : Den k) → entCells (k.dis x) = k.cells x
  | .nil, _ => rfl
  | .pair a b, x => by simp [Kd.dis, Kd.cells, entCells_append, a.dis_cells, b.dis_cells]
  | .int _, _ | .bool, _ | .str, _ | .sl, _ | .ptr, _ | .map, _ | .iface, _ | .fn, _ | .arr _ _, _ => by simp [Kd.dis, entCells, Ent.cells, Kd.cells]

/-- The first entry, if it is of the kind. -/
def one (k : Kd) : List Ent → Option (Den k × List Ent)
  | e :: r => if h : e.k = k then some (h ▸ e.x, r) else none
  | [] => none
theorem one_spec {k : Kd} {l r : List Ent} {x : Den k} (h : one k l = some (x, r)) : entCells l = k.cells x ++ entCells r := by
  cases l with
  | nil => simp [one] at h
  | cons e l =>
    obtain ⟨ke, xe⟩ := e
    simp only [one] at h
    split at h
    · rename_i hk
      subst hk
      simp at h
      obtain ⟨rfl, rfl⟩ := h
      rfl
    · cases h

def Kd.asm : (k : Kd) → List Ent → Option (Den k × List Ent)
  | .nil, l => some ((), l)
  | .pair a b, l => match a.asm l with
    | some (x, r) => match b.asm r with
      | some (y, r') => some ((x, y), r')
      | none => none
    | none => none
  | .int k, l => one (.int k) l
  | .bool, l => one .bool l
  | .str, l => one .str l
  | .sl, l => one .sl l
  | .ptr, l => one .ptr l
  | .map, l => one .map l
  | .iface, l => one .iface l
  | .fn, l => one .fn l
  | .arr n a, l => one (.arr n a) l
theorem Kd.asm_spec : ∀ (k : Kd) (l r : List Ent) (x : Den k), k.asm l = some (x, r) → entCells l = k.cells x ++ entCells r
  | .nil, l, r, x, h => by simp [Kd.asm] at h; simp [Kd.cells, h]
  | .pair a b, l, r, x, h => by
    simp only [Kd.asm] at h
    split at h
    · rename_i y r1 h1
      split at h
      · rename_i z r2 h2
        simp at h
        obtain ⟨rfl, rfl⟩ := h
        rw [a.asm_spec _ _ _ h1, b.asm_spec _ _ _ h2]
        simp [Kd.cells]
      · cases h
    · cases h
  | .int _, _, _, _, h | .bool, _, _, _, h | .str, _, _, _, h | .sl, _, _, _, h | .ptr, _, _, _, h | .map, _, _, _, h | .iface, _, _, _, h | .fn, _, _, _, h | .arr _ _, _, _, _, h => one_spec h

/-- The entries from a place on. -/
def skip : List Ent → Nat → Option (List Ent)
  | l, 0 => some l
  | [], _ + 1 => none
  | e :: r, n + 1 => if e.size ≤ n + 1 then skip r (n + 1 - e.size) else none
theorem skip_spec : ∀ (l : List Ent) (n : Nat) (r : List Ent), skip l n = some r → ∃ p, l = p ++ r ∧ entSize p = n
  | l, 0, r, h => by simp [skip] at h; exact ⟨[], by simp [h], rfl⟩
  | [], n + 1, r, h => by simp [skip] at h
  | e :: l, n + 1, r, h => by
    simp only [skip] at h
    split at h
    · rename_i hs
      obtain ⟨p, rfl, hp⟩ := skip_spec l _ r h
      exact ⟨e :: p, rfl, by simp [entSize, hp]; omega⟩
    · cases h
/-- The entries up to a place. -/
def upto : List Ent → Nat → List Ent
  | _, 0 => []
  | [], _ + 1 => []
  | e :: r, n + 1 => e :: upto r (n + 1 - e.size)
theorem upto_spec : ∀ (l : List Ent) (n : Nat) (r : List Ent), skip l n = some r → upto l n ++ r = l
  | l, 0, r, h => by simp [skip] at h; simp [upto, h]
  | [], n + 1, r, h => by simp [skip] at h
  | e :: l, n + 1, r, h => by
    simp only [skip] at h
    split at h
    · simp [upto, upto_spec l _ r h]
    · cases h
theorem upto_size {l : List Ent} {n : Nat} {r : List Ent} (h : skip l n = some r) : entSize (upto l n) = n := by
  obtain ⟨p, hp, hs⟩ := skip_spec l n r h
  have := upto_spec l n r h
  rw [hp] at this
  have e := List.append_cancel_right this
  have : upto l n = p := by rw [hp]; exact e
  rw [this, hs]

/-- What stands at a place, of a kind. -/
def getBox (k : Kd) (l : List Ent) (off : Nat) : Option (Den k) :=
  match skip l off with
  | some r => match k.asm r with
    | some (x, _) => some x
    | none => none
  | none => none
theorem getBox_spec {k : Kd} {l : List Ent} {off : Nat} {x : Den k} (h : getBox k l off = some x) :
    ∃ p r, entCells l = p ++ k.cells x ++ r ∧ p.length = off := by
  unfold getBox at h
  split at h
  · rename_i m hm
    split at h
    · rename_i y r hy
      cases h
      obtain ⟨p, rfl, hp⟩ := skip_spec _ _ _ hm
      refine ⟨entCells p, entCells r, ?_, by rw [entCells_len, hp]⟩
      rw [entCells_append, Kd.asm_spec _ _ _ _ hy, List.append_assoc]
    · cases h
  · cases h
/-- Other entries laid over those at a place. -/
def putBox (l : List Ent) (off : Nat) (new : List Ent) : Option (List Ent) :=
  match skip l off with
  | some r => match skip r (entSize new) with
    | some q => some (upto l off ++ (new ++ q))
    | none => none
  | none => none
theorem putBox_spec {l m : List Ent} {off : Nat} {new : List Ent} (h : putBox l off new = some m) :
    entCells m = splice (entCells l) off (entCells new) ∧ off + entSize new ≤ entSize l := by
  unfold putBox at h
  split at h
  · rename_i r hr
    split at h
    · rename_i q hq
      cases h
      have e := upto_spec _ _ _ hr
      have s := upto_size hr
      obtain ⟨p, rfl, hp⟩ := skip_spec _ _ _ hq
      have c : entCells l = entCells (upto l off) ++ (entCells p ++ entCells q) := by
        rw [← entCells_append, ← entCells_append, e]
      have l1 : (entCells (upto l off)).length = off := by rw [entCells_len, s]
      have l2 : (entCells p).length = (entCells new).length := by rw [entCells_len, entCells_len, hp]
      refine ⟨?_, ?_⟩
      · rw [entCells_append, entCells_append, c]
        unfold splice
        rw [List.take_left' l1, ← List.drop_drop, List.drop_left' l1, List.drop_left' l2, List.append_assoc]
      · rw [← e, entSize_append, entSize_append, s, hp]; omega
    · cases h
  · cases h

/-! ### arrays -/
def aget {n : Nat} {a : Kd} (f : Fin n → Den a) (i : Nat) : Den a := if h : i < n then f ⟨i, h⟩ else a.zero
def aset {n : Nat} {a : Kd} (f : Fin n → Den a) (i : Nat) (x : Den a) : Fin n → Den a := fun j => if j.val = i then x else f j

end Go.Mx
