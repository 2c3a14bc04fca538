/-
  Operations that leave the world as it is: what each comes to, as far as the state is known; that the machine comes to the same.
  Operations that leave the world as it is, the rest: loads, addresses, pieces of slices, fields, lengths.
-/
import Derived.Test.YtndhbkhhehleaaaMxA
import Derived.Laws.Sem
import Derived.Laws.Cells
set_option linter.unusedVariables false
set_option linter.unusedSimpArgs false
namespace Go.Mx

inductive TV where
  | junk
  | und
  | v (k : Kd) (x : Den k)
  | kb (b : Bool)
  | box (i off : Nat)
  | boxi (i off n sz : Nat) (ix : Int)
  | tup (k : Kd) (x : Den k)
  | it (T : TypeId) (b : Nat)
  | nx (b : Bool)

def Kd.comps : (k : Kd) → Den k → List Value
  | .pair a b, x => a.val x.1 :: b.comps x.2
  | _, _ => []

def Rl (κ : Nat → Nat) : TV → Value → Prop
  | .junk, _ => True
  | .und, u => u = undef
  | .v k x, u => u = k.val x
  | .kb b, u => u = .bool b
  | .box i off, u => u = .pointer (some ⟨κ i, off, none⟩)
  | .boxi i off n sz ix, u => (0 ≤ ix ∧ ix < n) ∧ u = .pointer (some ⟨κ i, off + ix.toNat * sz, none⟩)
  | .tup k x, u => u = .tuple (k.comps x).toArray
  | .it _ b, u => u = .pointer (some ⟨b, 0, none⟩)
  | .nx b, u => ∃ r : Array Value, u = .tuple (#[.bool b] ++ r)

def constTV : Value → TV
  | .int k n => .v (.int k) n
  | .bool true => .kb true
  | .bool false => .kb false
  | .string s => .v .str s
  | .slice a n c => .v .sl ⟨a, n, c⟩
  | .pointer a => .v .ptr a
  | .map m => .v .map m
  | .nilFunc => .v .fn .nilFunc
  | .nilIface => .v .iface .nilIface
  | _ => .junk
theorem Rl_const (κ : Nat → Nat) (u : Value) : Rl κ (constTV u) u := by
  cases u with
  | bool b => cases b <;> rfl
  | _ => first | rfl | trivial

abbrev Slots := Nat → TV
abbrev Boxes := List (Nat × List Ent)
def look : Boxes → Nat → Option (List Ent)
  | [], _ => none
  | (j, l) :: r, i => bif Nat.beq i j then some l else look r i

def ev (ρ : Slots) : Operand → TV
  | .tmp t => ρ t
  | .const u => constTV u
  | .func f => .v .fn (.func (.func f) #[] #[])
  | .global g => .v .ptr (some ⟨g, 0, none⟩)

structure EvOk (κ : Nat → Nat) (ρ : Slots) (e : Operand → Value) : Prop where
  tmp : ∀ t, Rl κ (ρ t) (e (.tmp t))
  const : ∀ u, e (.const u) = u
  func : ∀ f, e (.func f) = .func (.func f) #[] #[]
  global : ∀ g, e (.global g) = .pointer (some ⟨g, 0, none⟩)

theorem EvOk.ev {κ : Nat → Nat} {ρ : Slots} {e : Operand → Value} (h : EvOk κ ρ e) : ∀ x, Rl κ (ev ρ x) (e x)
  | .tmp t => h.tmp t
  | .const u => by rw [h.const]; exact Rl_const κ u
  | .func f => by rw [h.func]; rfl
  | .global g => by rw [h.global]; rfl

structure SB (κ : Nat → Nat) (β : Boxes) (h : Heap) (w : World) : Prop where
  sub : Sub h w
  box : ∀ i l, look β i = some l → ∃ t, w.heap[κ i]? = some (.cells (entCells l).toArray t (0, 0))

def deref (p : Option Addr) (K : Addr → Prop) : Prop :=
  match p with
  | some a => K a
  | none => False

def asInt : TV → Option (IntKind × Int)
  | .v (.int k) x => some (k, x)
  | _ => none
theorem asInt_spec {κ : Nat → Nat} {t : TV} {u : Value} {k : IntKind} {x : Int} (h : asInt t = some (k, x)) (r : Rl κ t u) : u = .int k x := by
  unfold asInt at h
  split at h
  · cases h; exact r
  · cases h
def asBool : TV → Option Bool
  | .v .bool x => some x
  | .kb b => some b
  | _ => none
theorem asBool_spec {κ : Nat → Nat} {t : TV} {u : Value} {x : Bool} (h : asBool t = some x) (r : Rl κ t u) : u = .bool x := by
  unfold asBool at h
  split at h
  · cases h; exact r
  · cases h; exact r
  · cases h

def intM (op : BinOp) (k : IntKind) (x y : Int) (K : TV → Prop) : Prop :=
  match op with
  | .add => K (.v (.int k) (k.wrap (x + y)))
  | .sub => K (.v (.int k) (k.wrap (x - y)))
  | .mul => K (.v (.int k) (k.wrap (x * y)))
  | .quo => y ≠ 0 ∧ K (.v (.int k) (k.wrap (x.tdiv y)))
  | .rem => y ≠ 0 ∧ K (.v (.int k) (x.tmod y))
  | .eql => K (.v .bool (decide (x = y)))
  | .neq => K (.v .bool (decide (x ≠ y)))
  | .lss => K (.v .bool (decide (x < y)))
  | .leq => K (.v .bool (decide (x ≤ y)))
  | .gtr => K (.v .bool (decide (y < x)))
  | .geq => K (.v .bool (decide (y ≤ x)))
  | .and | .or | .xor | .andNot => K (.v (.int k) (k.wrap (match op with
      | .and => (BitVec.ofInt k.bits x &&& BitVec.ofInt k.bits y).toNat
      | .or => (BitVec.ofInt k.bits x ||| BitVec.ofInt k.bits y).toNat
      | .xor => (BitVec.ofInt k.bits x ^^^ BitVec.ofInt k.bits y).toNat
      | _ => (BitVec.ofInt k.bits x &&& ~~~ (BitVec.ofInt k.bits y)).toNat : Nat)))
  | .shl => 0 ≤ y ∧ K (.v (.int k) (k.wrap (x * 2 ^ (min y.toNat k.bits))))
  | .shr => 0 ≤ y ∧ K (.v (.int k) (x.fdiv (2 ^ (min y.toNat k.bits))))

def Quiet (P : Program) (κ : Nat → Nat) (β : Boxes) (h : Heap) (e : Operand → Value) (o : Oper) (K : TV → Prop) : Prop :=
  ∃ tv u, K tv ∧ Rl κ tv u ∧ ∀ w, SB κ β h w → (execOp e o).run P w = .ok (.value u) w

theorem Quiet.mk' {P : Program} {κ : Nat → Nat} {β : Boxes} {h : Heap} {e : Operand → Value} {o : Oper} {K : TV → Prop} {s : Sem Value}
    (he : execOp e o = (do pure (.value (← s)))) {tv : TV} {u : Value} (hk : K tv) (hr : Rl κ tv u) (hs : ∀ w, SB κ β h w → s.run P w = .ok u w) : Quiet P κ β h e o K :=
  ⟨tv, u, hk, hr, fun w hw => by rw [he]; simp [hs w hw]⟩

theorem intM_sound {P : Program} {κ : Nat → Nat} {op : BinOp} {k : IntKind} {x y : Int} {K : TV → Prop} (h : intM op k x y K) (T : TypeId) :
    ∃ tv u, K tv ∧ Rl κ tv u ∧ ∀ w, (binOp op T (.int k x) (.int k y)).run P w = .ok u w := by
  cases op with
  | quo => exact ⟨_, _, h.2, rfl, fun w => by simp [binOp, Op.intDiv, h.1, Kd.val]⟩
  | rem => exact ⟨_, _, h.2, rfl, fun w => by simp [binOp, Op.intDiv, h.1, Kd.val]⟩
  | shl => exact ⟨_, _, h.2, rfl, fun w => by simp [binOp, Op.shift, show ¬ y < 0 from by have := h.1; omega, Kd.val]⟩
  | shr => exact ⟨_, _, h.2, rfl, fun w => by simp [binOp, Op.shift, show ¬ y < 0 from by have := h.1; omega, Kd.val]⟩
  | eql => exact ⟨_, _, h, rfl, fun w => by simp [binOp, Op.intCmp, Kd.val]; rfl⟩
  | neq => exact ⟨_, _, h, rfl, fun w => by simp [binOp, Op.intCmp, Kd.val, bne]; by_cases e : x = y <;> simp [e]⟩
  | _ => exact ⟨_, _, h, rfl, fun w => by simp [binOp, Op.intArith, Op.intCmp, Op.intBits, Kd.val]⟩

def eqM (P : Program) (neg : Bool) (T : TypeId) (x y : TV) (K : TV → Prop) : Prop :=
  match P.underlying T with
  | some .bool => match asBool x, asBool y with
    | some a, some b => K (.v .bool (if neg then !(a == b) else a == b))
    | _, _ => False
  | some (.slice _) => match x, y with
    | .v .sl s, .v .sl ⟨none, _, _⟩ => K (.v .bool (if neg then s.a.isSome else s.a.isNone))
    | _, _ => False
  | some (.pointer _) => match x, y with
    | .v .ptr p, .v .ptr none => K (.v .bool (if neg then p.isSome else p.isNone))
    | _, _ => False
  | some (.map _ _) => match x, y with
    | .v .map p, .v .map none => K (.v .bool (if neg then p.isSome else p.isNone))
    | _, _ => False
  | _ => False

theorem run_underlying' {P : Program} {T : TypeId} {d : TypeDesc} (h : P.underlying T = some d) (w : World) : (underlying T).run P w = .ok d w := by
  simp [underlying, h]

section
variable {P : Program} {T : TypeId} (d : Nat) (w : World)
theorem eqIn_bool (hT : P.underlying T = some .bool) (a b : Bool) : (Op.equalIn (d + 1) T (.bool a) (.bool b)).run P w = .ok (a == b) w := by
  simp [Op.equalIn, run_underlying' hT]
theorem eqIn_slice {e : TypeId} (hT : P.underlying T = some (.slice e)) (a : Option Addr) (n c m k : Nat) : (Op.equalIn (d + 1) T (.slice a n c) (.slice none m k)).run P w = .ok a.isNone w := by
  cases a <;> simp [Op.equalIn, run_underlying' hT]
theorem eqIn_ptr {e : TypeId} (hT : P.underlying T = some (.pointer e)) (a : Option Addr) : (Op.equalIn (d + 1) T (.pointer a) (.pointer none)).run P w = .ok a.isNone w := by
  cases a <;> simp [Op.equalIn, run_underlying' hT]
theorem eqIn_map {k e : TypeId} (hT : P.underlying T = some (.map k e)) (a : Option Nat) : (Op.equalIn (d + 1) T (.map a) (.map none)).run P w = .ok a.isNone w := by
  cases a <;> simp [Op.equalIn, run_underlying' hT]
end
theorem run_eq_of {P : Program} {T : TypeId} {u v : Value} {w : World} {b : Bool} (neg : Bool) (h : (Op.equalIn (9999 + 1) T u v).run P w = .ok b w)
    (h1 : binOp .eql T u v = (do pure (.bool (← Op.equal T u v)))) (h2 : binOp .neq T u v = (do pure (.bool (!(← Op.equal T u v))))) :
    (binOp (if neg then .neq else .eql) T u v).run P w = .ok (.bool (if neg then !b else b)) w := by
  have h' : (Op.equal T u v).run P w = .ok b w := h
  cases neg
  · simp only [Bool.false_eq_true, if_false]
    rw [h1]; simp [h']
  · simp only [if_true]
    rw [h2]; simp [h']
theorem eqM_sound {P : Program} {κ : Nat → Nat} {neg : Bool} {T : TypeId} {x y : TV} {K : TV → Prop} (h : eqM P neg T x y K) {u v : Value} (hu : Rl κ x u) (hv : Rl κ y v) :
    ∃ tv r, K tv ∧ Rl κ tv r ∧ ∀ w, (binOp (if neg then .neq else .eql) T u v).run P w = .ok r w := by
  unfold eqM at h
  split at h
  · rename_i hT
    split at h
    · rename_i a b ha hb
      rw [asBool_spec ha hu, asBool_spec hb hv]
      exact ⟨_, _, h, rfl, fun w => run_eq_of neg (eqIn_bool _ w hT a b) rfl rfl⟩
    · cases h
  · rename_i hT
    split at h
    · obtain rfl := hu
      obtain rfl := hv
      rename_i s n c
      refine ⟨_, _, h, rfl, fun w => ?_⟩
      have := run_eq_of neg (eqIn_slice 9999 w hT s.a s.len s.cap n c) rfl rfl
      rw [show (if neg = true then s.a.isSome else s.a.isNone) = (if neg = true then !s.a.isNone else s.a.isNone) from by cases neg <;> cases s.a <;> rfl]
      exact this
    · cases h
  · rename_i hT
    split at h
    · obtain rfl := hu
      obtain rfl := hv
      rename_i p
      refine ⟨_, _, h, rfl, fun w => ?_⟩
      have := run_eq_of neg (eqIn_ptr 9999 w hT p) (by cases p <;> rfl) (by cases p <;> rfl)
      rw [show (if neg = true then Option.isSome p else Option.isNone p) = (if neg = true then !Option.isNone p else Option.isNone p) from by cases neg <;> cases p <;> rfl]
      exact this
    · cases h
  · rename_i hT
    split at h
    · obtain rfl := hu
      obtain rfl := hv
      rename_i p
      refine ⟨_, _, h, rfl, fun w => ?_⟩
      have := run_eq_of neg (eqIn_map 9999 w hT p) (by cases p <;> rfl) (by cases p <;> rfl)
      rw [show (if neg = true then Option.isSome p else Option.isNone p) = (if neg = true then !Option.isNone p else Option.isNone p) from by cases neg <;> cases p <;> rfl]
      exact this
    · cases h
  · cases h

def isEq : BinOp → Option Bool
  | .eql => some false
  | .neq => some true
  | _ => none
def isStr : TV → Option ByteArray
  | .v .str s => some s
  | _ => none
def strM (op : BinOp) (x y : ByteArray) (K : TV → Prop) : Prop :=
  match op with
  | .eql => K (.v .bool (x.toList == y.toList))
  | .neq => K (.v .bool (!(x.toList == y.toList)))
  | _ => False

def binM (P : Program) (op : BinOp) (T : TypeId) (x y : TV) (K : TV → Prop) : Prop :=
  match asInt x, asInt y with
  | some (k, a), some (k', b) =>
    if k = k' then intM op k a b K else match op with
      | .shl => 0 ≤ b ∧ K (.v (.int k) (k.wrap (a * 2 ^ (min b.toNat k.bits))))
      | .shr => 0 ≤ b ∧ K (.v (.int k) (a.fdiv (2 ^ (min b.toNat k.bits))))
      | _ => False
  | _, _ => match isStr x, isStr y with
    | some a, some b => strM op a b K
    | _, _ => match isEq op with
      | some neg => eqM P neg T x y K
      | none => False

theorem run_eqGuard_of {P : Program} {op : BinOp} {T : TypeId} {x y : Operand} {a b : Value} (w : World) (h1 : ∀ cs, a ≠ .agg cs) (h2 : a ≠ .nilIface) :
    (eqGuard op T x y a b).run P w = .ok () w := by
  unfold eqGuard
  cases a <;> first | exact absurd rfl h2 | exact absurd rfl (h1 _) | (split <;> rfl)

theorem binM_sound {P : Program} {κ : Nat → Nat} {β : Boxes} {h : Heap} {e : Operand → Value} {o : Oper} {op : BinOp} {T T' : TypeId} {X Y : Operand} {x y : TV} {K : TV → Prop}
    (ho : o.op = .binOp op T X Y T') (hm : binM P op T x y K) (hx : Rl κ x (e X)) (hy : Rl κ y (e Y)) : Quiet P κ β h e o K := by
  have he : execOp e o = (do pure (.value (← (do eqGuard op T X Y (e X) (e Y); binOp op T (e X) (e Y))))) := by simp only [execOp, ho]
  unfold binM at hm
  split at hm
  · rename_i k a k' b ha hb
    have ex := asInt_spec ha hx
    have ey := asInt_spec hb hy
    rw [ex, ey] at he
    split at hm
    · rename_i hk
      subst hk
      obtain ⟨tv, u, h1, h2, h3⟩ := intM_sound (P := P) (κ := κ) hm T
      exact Quiet.mk' he h1 h2 fun w _ => by simp [run_eqGuard_of, h3]
    · split at hm
      · exact Quiet.mk' he hm.2 rfl fun w _ => by simp [run_eqGuard_of, binOp, Op.shift, show ¬ b < 0 from by have := hm.1; omega, Kd.val]
      · exact Quiet.mk' he hm.2 rfl fun w _ => by simp [run_eqGuard_of, binOp, Op.shift, show ¬ b < 0 from by have := hm.1; omega, Kd.val]
      · cases hm
  · split at hm
    · rename_i a b ha hb
      have ex : e X = .string a := by
        unfold isStr at ha; split at ha
        · cases ha; exact hx
        · cases ha
      have ey : e Y = .string b := by
        unfold isStr at hb; split at hb
        · cases hb; exact hy
        · cases hb
      rw [ex, ey] at he
      unfold strM at hm
      split at hm
      · exact Quiet.mk' he hm rfl fun w _ => by simp [run_eqGuard_of, binOp, Op.stringOp, Kd.val]
      · exact Quiet.mk' he hm rfl fun w _ => by simp [run_eqGuard_of, binOp, Op.stringOp, Kd.val]
      · cases hm
    · split at hm
      · rename_i neg hn
        have hop : op = (if neg then .neq else .eql) := by
          unfold isEq at hn; split at hn <;> cases hn <;> rfl
        have hg : ∀ w, (eqGuard op T X Y (e X) (e Y)).run P w = .ok () w := by
          intro w
          unfold eqM at hm
          split at hm
          · split at hm
            · rename_i a b ha hb
              rw [asBool_spec ha hx]; exact run_eqGuard_of w (by simp) (by simp)
            · cases hm
          · split at hm
            · obtain hx := hx
              simp only [Rl, Kd.val, Sl.val] at hx
              rw [hx]; exact run_eqGuard_of w (by simp) (by simp)
            · cases hm
          · split at hm
            · obtain hx := hx
              simp only [Rl, Kd.val] at hx
              rw [hx]; exact run_eqGuard_of w (by simp) (by simp)
            · cases hm
          · split at hm
            · obtain hx := hx
              simp only [Rl, Kd.val] at hx
              rw [hx]; exact run_eqGuard_of w (by simp) (by simp)
            · cases hm
          · cases hm
        obtain ⟨tv, u, h1, h2, h3⟩ := eqM_sound hm hx hy
        refine Quiet.mk' he h1 h2 fun w _ => ?_
        rw [← hop] at h3
        simp [hg, h3]
      · cases hm

end Go.Mx

namespace Go.Mx

abbrev D : Nat := 8

def fOff (P : Program) (T : TypeId) (f : Nat) : Option Nat :=
  match P.underlying T with
  | some (.struct fs) => match fs[f]? with
    | some fd => match kdOf P D fd.type with
      | some k => if k.size = 0 then none else some fd.offset
      | none => none
    | none => none
  | _ => none

theorem add_none (b off n : Nat) : (⟨b, off, none⟩ : Addr).add n = ⟨b, off + n, none⟩ := by
  unfold Addr.add; split
  · rename_i h; subst h; rfl
  · rfl

theorem run_fieldAt {P : Program} {T : TypeId} {f off : Nat} (h : fOff P T f = some off) (a : Addr) (w : World) :
    (Instr.fieldAt T (.pointer (some a)) f).run P w = .ok (.pointer (some (a.add off))) w := by
  unfold fOff at h
  split at h
  · rename_i fs hT
    split at h
    · rename_i fd hf
      split at h
      · rename_i k hk
        split at h
        · cases h
        · rename_i hs
          cases h
          simp only [Instr.fieldAt, Sem.run_bind, run_underlying' hT, Result.andThen_ok, hf, Instr.sureAddr, Sem.run_pure]
          simp [fieldPlace, run_sizeOf hk, hs]
      · cases h
    · cases h
  · cases h

def elemD : TypeDesc → Option (Option Nat × TypeId)
  | .slice e => some (none, e)
  | .array n e => some (some n, e)
  | _ => none

def addrM (p : Option Addr) (off : Nat) (K : TV → Prop) : Prop := deref p fun a => K (.v .ptr (some (a.add off)))

def fieldAddrM (P : Program) (T : TypeId) (x : TV) (f : Nat) (K : TV → Prop) : Prop :=
  match fOff P T f with
  | some off => match x with
    | .v .ptr p => addrM p off K
    | .box i o => K (.box i (o + off))
    | _ => False
  | none => False

def indexAddrM (P : Program) (T : TypeId) (x i : TV) (K : TV → Prop) : Prop :=
  match P.underlying T, asInt i with
  | some (.slice e), some (_, n) => match kdOf P D e, x with
    | some k, .v .sl s => (0 ≤ n ∧ n < s.len) ∧ addrM s.a (n.toNat * k.size) K
    | _, _ => False
  | some (.array m e), some (_, n) => match kdOf P D e, x with
    | some k, .v .ptr p => (0 ≤ n ∧ n < m) ∧ addrM p (n.toNat * k.size) K
    | some k, .box b o => (0 ≤ n ∧ n < m) ∧ K (.boxi b o m k.size n)
    | _, _ => False
  | _, _ => False

theorem cells_world {h : Heap} {w : World} (s : Sub h w) {a : Addr} {l : List Value} (c : cellsAt h a l) (j : Nat) (v : Value) (e : l[j]? = some v) : w.cell? (a.add j) = some v :=
  cell_sound s (c j v e)

theorem run_loadVar {P : Program} {T : TypeId} {k : Kd} (hk : kdOf P D T = some k) {w : World} {a : Addr} {x : Den k}
    (hc : ∀ j v, (k.cells x)[j]? = some v → w.cell? (a.add j) = some v) : (loadVar T a).run P w = .ok (k.val x) w := by
  unfold loadVar
  simp only [Sem.run_bind, run_isAgg hk, Result.andThen_ok]
  by_cases ha : k.isAgg = true
  · simp only [ha, if_true, Sem.run_bind, run_sizeOf hk, Result.andThen_ok]
    have := run_loadCells_list (P := P) (w := w) a (k.cells x) hc
    rw [Kd.cells_len] at this
    rw [this]
    simp [Kd.val_agg ha]
  · have ha : k.isAgg = false := by simpa using ha
    have := hc 0 (k.val x) (by rw [Kd.cells_one ha]; rfl)
    simp only [ha, Bool.false_eq_true, if_false, run_load]
    have e : a.add 0 = a := rfl
    rw [e] at this
    rw [this]

def ld (k : Kd) (h : Heap) (a : Addr) (K : Den k → Prop) : Prop := ∃ x : Den k, cellsAt h a (k.cells x) ∧ K x

def loadM (P : Program) (T : TypeId) (x : TV) (β : Boxes) (h : Heap) (K : TV → Prop) : Prop :=
  match kdOf P D T with
  | some k => match x with
    | .v .ptr p => deref p fun a => ld k h a fun x => K (.v k x)
    | .box i off => match look β i with
      | some l => match getBox k l off with
        | some x => K (.v k x)
        | none => False
      | none => False
    | .boxi i off n sz ix => match look β i with
      | some l => match getBox (.arr n k) l off with
        | some f => bif Nat.beq k.size sz then K (.v k (aget (n := n) (a := k) f ix.toNat)) else False
        | none => False
      | none => False
    | _ => False
  | none => False

theorem box_cells {w : World} {b : Nat} {t : TypeId} {cs : List Value} (hb : w.heap[b]? = some (.cells cs.toArray t (0, 0))) {p l r : List Value}
    (he : cs = p ++ l ++ r) {off : Nat} (hp : p.length = off) (j : Nat) (v : Value) (hj : l[j]? = some v) : w.cell? ((⟨b, off, none⟩ : Addr).add j) = some v := by
  rw [add_none]
  unfold World.cell?
  simp only [hb, Option.isSome_none, Bool.false_eq_true, if_false]
  rw [List.getElem?_toArray, he, List.append_assoc, List.getElem?_append_right (by omega), ← hp, Nat.add_sub_cancel_left, List.getElem?_append_left]
  · exact hj
  · exact (List.getElem?_eq_some_iff.1 hj).1

theorem flatMap_at {α : Type} (f : α → List Value) (m : Nat) (hf : ∀ x, (f x).length = m) (l : List α) (i : Nat) (x : α) (hi : l[i]? = some x) :
    ∃ p r, l.flatMap f = p ++ f x ++ r ∧ p.length = i * m := by
  have hlt := (List.getElem?_eq_some_iff.1 hi).1
  have hx := (List.getElem?_eq_some_iff.1 hi).2
  refine ⟨(l.take i).flatMap f, (l.drop (i + 1)).flatMap f, ?_, ?_⟩
  · have e : l = l.take i ++ x :: l.drop (i + 1) := by
      rw [← hx]; simp
    conv => lhs; rw [e]
    simp [List.flatMap_append]
  · rw [flatMap_len f m hf]; simp; rw [Nat.min_eq_left (by omega)]

theorem loadM_sound {P : Program} {κ : Nat → Nat} {β : Boxes} {h : Heap} {T : TypeId} {x : TV} {K : TV → Prop} (hm : loadM P T x β h K) {u : Value} (hu : Rl κ x u) :
    ∃ tv r, K tv ∧ Rl κ tv r ∧ ∀ w, SB κ β h w → (Instr.loadAt T u).run P w = .ok r w := by
  unfold loadM at hm
  split at hm
  · rename_i k hk
    split at hm
    · rename_i p
      obtain rfl := hu
      unfold deref at hm
      split at hm
      · rename_i a
        obtain ⟨x, hc, hK⟩ := hm
        exact ⟨_, _, hK, rfl, fun w hw => by
          simp only [Instr.loadAt, Kd.val, Instr.sureAddr, Sem.run_bind, Sem.run_pure, Result.andThen_ok]
          exact run_loadVar hk (fun j v e => cells_world hw.sub hc j v e)⟩
      · cases hm
    · rename_i i off
      obtain rfl := hu
      split at hm
      · rename_i l hl
        split at hm
        · rename_i x hx
          obtain ⟨p, r, hp, hlen⟩ := getBox_spec hx
          exact ⟨_, _, hm, rfl, fun w hw => by
            obtain ⟨t, hb⟩ := hw.box i l hl
            simp only [Instr.loadAt, Instr.sureAddr, Sem.run_bind, Sem.run_pure, Result.andThen_ok]
            exact run_loadVar hk (fun j v e => box_cells hb hp hlen j v e)⟩
        · cases hm
      · cases hm
    · rename_i i off n sz ix
      obtain ⟨hix, rfl⟩ := hu
      split at hm
      · rename_i l hl
        split at hm
        · rename_i f hx
          cases hsz : Nat.beq k.size sz
          · rw [hsz] at hm; exact hm.elim
          rw [hsz] at hm
          simp only [cond_true] at hm
          have hsz := Nat.eq_of_beq_eq_true hsz
          subst hsz
          obtain ⟨p, r, hp, hlen⟩ := getBox_spec hx
          have hlt : ix.toNat < n := by omega
          have hget : (List.ofFn f)[ix.toNat]? = some (aget (n := n) (a := k) f ix.toNat) := by
            unfold aget
            rw [dif_pos hlt]
            rw [List.getElem?_ofFn, dif_pos hlt]
          obtain ⟨p', r', hp', hlen'⟩ := flatMap_at k.cells k.size k.cells_len _ _ _ hget
          exact ⟨_, _, hm, rfl, fun w hw => by
            obtain ⟨t, hb⟩ := hw.box i l hl
            simp only [Instr.loadAt, Instr.sureAddr, Sem.run_bind, Sem.run_pure, Result.andThen_ok]
            refine run_loadVar hk (fun j v e => box_cells hb (p := p ++ p') (r := r' ++ r) ?_ (by simp [hlen, hlen']) j v e)
            rw [hp]
            simp only [Kd.cells]
            rw [hp']
            simp only [List.append_assoc]⟩
        · cases hm
      · cases hm
    · cases hm
  · cases hm

def Sl.cut (s : Sl) (lo hi sz : Nat) : Sl := ⟨if s.cap = lo then s.a else s.a.map (·.add (lo * sz)), hi - lo, s.cap - lo⟩

def hiM (s : Sl) (hi : Option TV) (K : Nat → Prop) : Prop :=
  match hi with
  | none => K s.len
  | some t => match asInt t with
    | some (_, n) => (0 ≤ n ∧ n ≤ s.cap) ∧ K n.toNat
    | none => False
def loM (hi : Nat) (lo : Option TV) (K : Nat → Prop) : Prop :=
  match lo with
  | none => K 0
  | some t => match asInt t with
    | some (_, n) => (0 ≤ n ∧ n ≤ hi) ∧ K n.toNat
    | none => False
def sliceM (P : Program) (T : TypeId) (x : TV) (lo hi mx : Option TV) (K : TV → Prop) : Prop :=
  match P.underlying T, mx, x with
  | some (.slice e), none, .v .sl s => match kdOf P D e with
    | some k => hiM s hi fun h => loM h lo fun l => K (.v .sl (s.cut l h k.size))
    | none => False
  | _, _, _ => False

theorem run_sliceBound_in {P : Program} {k : IntKind} {n : Int} {y : Nat} {c : BoundsCode} {w : World} (h : 0 ≤ n ∧ n ≤ y) :
    (Instr.sliceBound (.int k n) y c).run P w = .ok n.toNat w := by
  simp [Instr.sliceBound, asIntOf, h]

def ROpt (κ : Nat → Nat) : Option TV → Option Value → Prop
  | none, none => True
  | some t, some u => Rl κ t u
  | _, _ => False

theorem sliceM_sound {P : Program} {κ : Nat → Nat} {T : TypeId} {x : TV} {lo hi mx : Option TV} {K : TV → Prop} (hm : sliceM P T x lo hi mx K)
    {u : Value} {ul uh um : Option Value} (hu : Rl κ x u) (hl : ROpt κ lo ul) (hh : ROpt κ hi uh) (hx : ROpt κ mx um) :
    ∃ tv r, K tv ∧ Rl κ tv r ∧ ∀ w, (Instr.sliceAt T u ul uh um).run P w = .ok r w := by
  unfold sliceM at hm
  split at hm
  · rename_i e s hT
    have hum : um = none := by cases um with | none => rfl | some _ => exact hx.elim
    subst hum
    obtain rfl := hu
    split at hm
    · rename_i k hk
      have hhi : ∃ h, (loM h lo fun l => K (.v .sl (s.cut l h k.size))) ∧ ∀ w, (match uh with | some v => Instr.sliceBound v s.cap .sliceAcap | none => pure s.len : Sem Nat).run P w = .ok h w := by
        unfold hiM at hm
        split at hm
        · cases uh with
          | none => exact ⟨_, hm, fun w => rfl⟩
          | some _ => exact hh.elim
        · rename_i t
          cases uh with
          | none => exact hh.elim
          | some v =>
            split at hm
            · rename_i kk n hn
              have := asInt_spec hn hh
              subst this
              exact ⟨_, hm.2, fun w => run_sliceBound_in hm.1⟩
            · cases hm
      obtain ⟨h, hm, hrun⟩ := hhi
      have hlo : ∃ l, K (.v .sl (s.cut l h k.size)) ∧ ∀ w, (match ul with | some v => Instr.sliceBound v h .sliceB | none => pure 0 : Sem Nat).run P w = .ok l w := by
        unfold loM at hm
        split at hm
        · cases ul with
          | none => exact ⟨_, hm, fun w => rfl⟩
          | some _ => exact hl.elim
        · rename_i t
          cases ul with
          | none => exact hl.elim
          | some v =>
            split at hm
            · rename_i kk n hn
              have := asInt_spec hn hl
              subst this
              exact ⟨_, hm.2, fun w => run_sliceBound_in hm.1⟩
            · cases hm
      obtain ⟨l, hK, hrun2⟩ := hlo
      refine ⟨_, _, hK, rfl, fun w => ?_⟩
      simp only [Instr.sliceAt, Instr.slice, Sem.run_bind, run_underlying' hT, Result.andThen_ok, Kd.val, Sl.val, Instr.sliceBounds, Sem.run_pure]
      cases uh <;> cases ul <;> simp_all [run_sizeOf hk, Sl.cut]
    · cases hm
  · cases hm

def tupM : (k : Kd) → Den k → Nat → (TV → Prop) → Prop
  | .pair a b, x, 0, K => K (.v a x.1)
  | .pair a b, x, n + 1, K => tupM b x.2 n K
  | _, _, _, _ => False
theorem tupM_sound {κ : Nat → Nat} {K : TV → Prop} : ∀ (k : Kd) (x : Den k) (n : Nat), tupM k x n K → ∃ tv r, K tv ∧ Rl κ tv r ∧ (k.comps x)[n]? = some r
  | .pair a b, x, 0, h => ⟨_, _, h, rfl, rfl⟩
  | .pair a b, x, n + 1, h => by
    obtain ⟨tv, r, h1, h2, h3⟩ := tupM_sound b x.2 n h
    exact ⟨tv, r, h1, h2, by simpa [Kd.comps] using h3⟩
def extractM (x : TV) (i : Nat) (K : TV → Prop) : Prop :=
  match x with
  | .tup k x => tupM k x i K
  | .nx b => bif Nat.beq i 0 then K (.v .bool b) else False
  | _ => False

def fieldM (P : Program) (T : TypeId) (x : TV) (f : Nat) (K : TV → Prop) : Prop :=
  match P.underlying T, x with
  | some (.struct fs), .v k x => match fs[f]? with
    | some fd => match kdOf P D fd.type with
      | some kf => bif k.isAgg then (match getBox kf (k.dis x) fd.offset with
        | some y => K (.v kf y)
        | none => False) else False
      | none => False
    | none => False
  | _, _ => False

theorem run_part {P : Program} {T : TypeId} {k : Kd} (hk : kdOf P D T = some k) {cs p r : List Value} {x : Den k} {off : Nat} (he : cs = p ++ k.cells x ++ r) (hp : p.length = off) (w : World) :
    (part T cs.toArray off).run P w = .ok (k.val x) w := by
  unfold part
  simp only [Sem.run_bind, run_isAgg hk, Result.andThen_ok]
  by_cases ha : k.isAgg = true
  · simp only [ha, if_true, Sem.run_bind, run_sizeOf hk, Result.andThen_ok, Sem.run_pure]
    rw [Kd.val_agg ha]
    congr 2
    rw [he]
    simp only [List.extract_toArray, List.extract_eq_take_drop]
    congr 1
    rw [← hp, List.append_assoc, List.drop_left' rfl, Nat.add_sub_cancel_left, ← Kd.cells_len k x, List.take_left' rfl]
  · have ha : k.isAgg = false := by simpa using ha
    simp only [ha, Bool.false_eq_true, if_false]
    have : cs.toArray[off]? = some (k.val x) := by
      rw [List.getElem?_toArray, he, Kd.cells_one ha, List.append_assoc, List.getElem?_append_right (by omega), ← hp]
      simp
    simp [this]

theorem fieldM_sound {P : Program} {κ : Nat → Nat} {T : TypeId} {x : TV} {f : Nat} {K : TV → Prop} (hm : fieldM P T x f K) {u : Value} (hu : Rl κ x u) :
    ∃ tv r, K tv ∧ Rl κ tv r ∧ ∀ w, (Instr.field T u f).run P w = .ok r w := by
  unfold fieldM at hm
  split at hm
  · rename_i fs k x hT
    obtain rfl := hu
    split at hm
    · rename_i fd hf
      split at hm
      · rename_i kf hkf
        cases ha : k.isAgg
        · rw [ha] at hm; exact hm.elim
        rw [ha] at hm
        simp only [cond_true] at hm
        split at hm
        · rename_i y hy
          obtain ⟨p, r, hp, hlen⟩ := getBox_spec hy
          rw [Kd.dis_cells] at hp
          refine ⟨_, _, hm, rfl, fun w => ?_⟩
          simp only [Instr.field, Sem.run_bind, run_underlying' hT, Result.andThen_ok, hf, Kd.val_agg ha, asAgg, Sem.run_pure]
          exact run_part hkf hp hlen w
        · cases hm
      · cases hm
    · cases hm
  · cases hm

end Go.Mx
