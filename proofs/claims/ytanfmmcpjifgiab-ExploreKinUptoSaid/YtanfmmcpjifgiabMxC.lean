/-
  Operations that leave the world as it is: what each comes to, as far as the state is known; that the machine comes to the same.
-/
import Derived.Test.YtanfmmcpjifgiabMxB
import Derived.Laws.Sem
import Derived.Laws.Cells
set_option linter.unusedVariables false
set_option linter.unusedSimpArgs false
namespace Go.Mx

inductive TV where
  | junk
  | und
  | v (k : Kd) (x : Den k)
  | kb (b : Bool)
  | box (i off : Nat)
  | boxi (i off n sz : Nat) (ix : Int)
  | tup (k : Kd) (x : Den k)

def Kd.comps : (k : Kd) → Den k → List Value
  | .pair a b, x => a.val x.1 :: b.comps x.2
  | _, _ => []

def Rl (κ : Nat → Nat) : TV → Value → Prop
  | .junk, _ => True
  | .und, u => u = undef
  | .v k x, u => u = k.val x
  | .kb b, u => u = .bool b
  | .box i off, u => u = .pointer (some ⟨κ i, off, none⟩)
  | .boxi i off n sz ix, u => (0 ≤ ix ∧ ix < n) ∧ u = .pointer (some ⟨κ i, off + ix.toNat * sz, none⟩)
  | .tup k x, u => u = .tuple (k.comps x).toArray

def constTV : Value → TV
  | .int k n => .v (.int k) n
  | .bool true => .kb true
  | .bool false => .kb false
  | .string s => .v .str s
  | .slice a n c => .v .sl ⟨a, n, c⟩
  | .pointer a => .v .ptr a
  | .map m => .v .map m
  | .nilFunc => .v .fn .nilFunc
  | .nilIface => .v .iface .nilIface
  | _ => .junk
theorem Rl_const (κ : Nat → Nat) (u : Value) : Rl κ (constTV u) u := by
  cases u with
  | bool b => cases b <;> rfl
  | _ => first | rfl | trivial

abbrev Slots := Nat → TV
abbrev Boxes := List (Nat × List Ent)
def look : Boxes → Nat → Option (List Ent)
  | [], _ => none
  | (j, l) :: r, i => bif Nat.beq i j then some l else look r i

def ev (ρ : Slots) : Operand → TV
  | .tmp t => ρ t
  | .const u => constTV u
  | .func f => .v .fn (.func (.func f) #[] #[])
  | .global g => .v .ptr (some ⟨g, 0, none⟩)

def SlotsOk (κ : Nat → Nat) (ρ : Slots) (e : Operand → Value) : Prop := ∀ t, Rl κ (ρ t) (e (.tmp t))
/-- An activation's operands. -/
structure EvOk (κ : Nat → Nat) (ρ : Slots) (e : Operand → Value) : Prop where
  tmp : ∀ t, Rl κ (ρ t) (e (.tmp t))
  const : ∀ u, e (.const u) = u
  func : ∀ f, e (.func f) = .func (.func f) #[] #[]
  global : ∀ g, e (.global g) = .pointer (some ⟨g, 0, none⟩)

theorem EvOk.ev {κ : Nat → Nat} {ρ : Slots} {e : Operand → Value} (h : EvOk κ ρ e) : ∀ x, Rl κ (ev ρ x) (e x)
  | .tmp t => h.tmp t
  | .const u => by rw [h.const]; exact Rl_const κ u
  | .func f => by rw [h.func]; rfl
  | .global g => by rw [h.global]; rfl

/-- What a world must meet for what is only read. -/
structure SB (κ : Nat → Nat) (β : Boxes) (h : Heap) (w : World) : Prop where
  sub : Sub h w
  box : ∀ i l, look β i = some l → ∃ t, w.heap[κ i]? = some (.cells (entCells l).toArray t (0, 0))

def deref (p : Option Addr) (K : Addr → Prop) : Prop :=
  match p with
  | some a => K a
  | none => False

/-! ### numbers -/
def asInt : TV → Option (IntKind × Int)
  | .v (.int k) x => some (k, x)
  | _ => none
theorem asInt_spec {κ : Nat → Nat} {t : TV} {u : Value} {k : IntKind} {x : Int} (h : asInt t = some (k, x)) (r : Rl κ t u) : u = .int k x := by
  unfold asInt at h
  split at h
  · cases h; exact r
  · cases h
def asBool : TV → Option Bool
  | .v .bool x => some x
  | .kb b => some b
  | _ => none
theorem asBool_spec {κ : Nat → Nat} {t : TV} {u : Value} {x : Bool} (h : asBool t = some x) (r : Rl κ t u) : u = .bool x := by
  unfold asBool at h
  split at h
  · cases h; exact r
  · cases h; exact r
  · cases h

/-- Arithmetic and comparison of whole numbers. -/
def intM (op : BinOp) (k : IntKind) (x y : Int) (K : TV → Prop) : Prop :=
  match op with
  | .add => K (.v (.int k) (k.wrap (x + y)))
  | .sub => K (.v (.int k) (k.wrap (x - y)))
  | .mul => K (.v (.int k) (k.wrap (x * y)))
  | .quo => y ≠ 0 ∧ K (.v (.int k) (k.wrap (x.tdiv y)))
  | .rem => y ≠ 0 ∧ K (.v (.int k) (x.tmod y))
  | .eql => K (.v .bool (decide (x = y)))
  | .neq => K (.v .bool (decide (x ≠ y)))
  | .lss => K (.v .bool (decide (x < y)))
  | .leq => K (.v .bool (decide (x ≤ y)))
  | .gtr => K (.v .bool (decide (y < x)))
  | .geq => K (.v .bool (decide (y ≤ x)))
  | .and | .or | .xor | .andNot => K (.v (.int k) (k.wrap (match op with
      | .and => (BitVec.ofInt k.bits x &&& BitVec.ofInt k.bits y).toNat
      | .or => (BitVec.ofInt k.bits x ||| BitVec.ofInt k.bits y).toNat
      | .xor => (BitVec.ofInt k.bits x ^^^ BitVec.ofInt k.bits y).toNat
      | _ => (BitVec.ofInt k.bits x &&& ~~~ (BitVec.ofInt k.bits y)).toNat : Nat)))
  | .shl => 0 ≤ y ∧ K (.v (.int k) (k.wrap (x * 2 ^ (min y.toNat k.bits))))
  | .shr => 0 ≤ y ∧ K (.v (.int k) (x.fdiv (2 ^ (min y.toNat k.bits))))

/-- What a silent operation's soundness says. -/
def Quiet (P : Program) (κ : Nat → Nat) (β : Boxes) (h : Heap) (e : Operand → Value) (o : Oper) (K : TV → Prop) : Prop :=
  ∃ tv u, K tv ∧ Rl κ tv u ∧ ∀ w, SB κ β h w → (execOp e o).run P w = .ok (.value u) w


theorem Quiet.mk' {P : Program} {κ : Nat → Nat} {β : Boxes} {h : Heap} {e : Operand → Value} {o : Oper} {K : TV → Prop} {s : Sem Value}
    (he : execOp e o = (do pure (.value (← s)))) {tv : TV} {u : Value} (hk : K tv) (hr : Rl κ tv u) (hs : ∀ w, SB κ β h w → s.run P w = .ok u w) : Quiet P κ β h e o K :=
  ⟨tv, u, hk, hr, fun w hw => by rw [he]; simp [hs w hw]⟩

theorem intM_sound {P : Program} {κ : Nat → Nat} {op : BinOp} {k : IntKind} {x y : Int} {K : TV → Prop} (h : intM op k x y K) (T : TypeId) :
    ∃ tv u, K tv ∧ Rl κ tv u ∧ ∀ w, (binOp op T (.int k x) (.int k y)).run P w = .ok u w := by
  cases op with
  | quo => exact ⟨_, _, h.2, rfl, fun w => by simp [binOp, Op.intDiv, h.1, Kd.val]⟩
  | rem => exact ⟨_, _, h.2, rfl, fun w => by simp [binOp, Op.intDiv, h.1, Kd.val]⟩
  | shl => exact ⟨_, _, h.2, rfl, fun w => by simp [binOp, Op.shift, show ¬ y < 0 from by have := h.1; omega, Kd.val]⟩
  | shr => exact ⟨_, _, h.2, rfl, fun w => by simp [binOp, Op.shift, show ¬ y < 0 from by have := h.1; omega, Kd.val]⟩
  | eql => exact ⟨_, _, h, rfl, fun w => by simp [binOp, Op.intCmp, Kd.val]; rfl⟩
  | neq => exact ⟨_, _, h, rfl, fun w => by simp [binOp, Op.intCmp, Kd.val, bne]; by_cases e : x = y <;> simp [e]⟩
  | _ => exact ⟨_, _, h, rfl, fun w => by simp [binOp, Op.intArith, Op.intCmp, Op.intBits, Kd.val]⟩

/-- '==' where the type is no whole number's. -/
def eqM (P : Program) (neg : Bool) (T : TypeId) (x y : TV) (K : TV → Prop) : Prop :=
  match P.underlying T with
  | some .bool => match asBool x, asBool y with
    | some a, some b => K (.v .bool (if neg then !(a == b) else a == b))
    | _, _ => False
  | some (.slice _) => match x, y with
    | .v .sl s, .v .sl ⟨none, _, _⟩ => K (.v .bool (if neg then s.a.isSome else s.a.isNone))
    | _, _ => False
  | some (.pointer _) => match x, y with
    | .v .ptr p, .v .ptr none => K (.v .bool (if neg then p.isSome else p.isNone))
    | _, _ => False
  | some (.map _ _) => match x, y with
    | .v .map p, .v .map none => K (.v .bool (if neg then p.isSome else p.isNone))
    | _, _ => False
  | _ => False

theorem run_underlying' {P : Program} {T : TypeId} {d : TypeDesc} (h : P.underlying T = some d) (w : World) : (underlying T).run P w = .ok d w := by
  simp [underlying, h]

section
variable {P : Program} {T : TypeId} (d : Nat) (w : World)
theorem eqIn_bool (hT : P.underlying T = some .bool) (a b : Bool) : (Op.equalIn (d + 1) T (.bool a) (.bool b)).run P w = .ok (a == b) w := by
  simp [Op.equalIn, run_underlying' hT]
theorem eqIn_slice {e : TypeId} (hT : P.underlying T = some (.slice e)) (a : Option Addr) (n c m k : Nat) : (Op.equalIn (d + 1) T (.slice a n c) (.slice none m k)).run P w = .ok a.isNone w := by
  cases a <;> simp [Op.equalIn, run_underlying' hT]
theorem eqIn_ptr {e : TypeId} (hT : P.underlying T = some (.pointer e)) (a : Option Addr) : (Op.equalIn (d + 1) T (.pointer a) (.pointer none)).run P w = .ok a.isNone w := by
  cases a <;> simp [Op.equalIn, run_underlying' hT]
theorem eqIn_map {k e : TypeId} (hT : P.underlying T = some (.map k e)) (a : Option Nat) : (Op.equalIn (d + 1) T (.map a) (.map none)).run P w = .ok a.isNone w := by
  cases a <;> simp [Op.equalIn, run_underlying' hT]
end
theorem run_eq_of {P : Program} {T : TypeId} {u v : Value} {w : World} {b : Bool} (neg : Bool) (h : (Op.equalIn (9999 + 1) T u v).run P w = .ok b w)
    (h1 : binOp .eql T u v = (do pure (.bool (← Op.equal T u v)))) (h2 : binOp .neq T u v = (do pure (.bool (!(← Op.equal T u v))))) :
    (binOp (if neg then .neq else .eql) T u v).run P w = .ok (.bool (if neg then !b else b)) w := by
  have h' : (Op.equal T u v).run P w = .ok b w := h
  cases neg
  · simp only [Bool.false_eq_true, if_false]
    rw [h1]; simp [h']
  · simp only [if_true]
    rw [h2]; simp [h']
theorem eqM_sound {P : Program} {κ : Nat → Nat} {neg : Bool} {T : TypeId} {x y : TV} {K : TV → Prop} (h : eqM P neg T x y K) {u v : Value} (hu : Rl κ x u) (hv : Rl κ y v) :
    ∃ tv r, K tv ∧ Rl κ tv r ∧ ∀ w, (binOp (if neg then .neq else .eql) T u v).run P w = .ok r w := by
  unfold eqM at h
  split at h
  · rename_i hT
    split at h
    · rename_i a b ha hb
      rw [asBool_spec ha hu, asBool_spec hb hv]
      exact ⟨_, _, h, rfl, fun w => run_eq_of neg (eqIn_bool _ w hT a b) rfl rfl⟩
    · cases h
  · rename_i hT
    split at h
    · obtain rfl := hu
      obtain rfl := hv
      rename_i s n c
      refine ⟨_, _, h, rfl, fun w => ?_⟩
      have := run_eq_of neg (eqIn_slice 9999 w hT s.a s.len s.cap n c) rfl rfl
      rw [show (if neg = true then s.a.isSome else s.a.isNone) = (if neg = true then !s.a.isNone else s.a.isNone) from by cases neg <;> cases s.a <;> rfl]
      exact this
    · cases h
  · rename_i hT
    split at h
    · obtain rfl := hu
      obtain rfl := hv
      rename_i p
      refine ⟨_, _, h, rfl, fun w => ?_⟩
      have := run_eq_of neg (eqIn_ptr 9999 w hT p) (by cases p <;> rfl) (by cases p <;> rfl)
      rw [show (if neg = true then Option.isSome p else Option.isNone p) = (if neg = true then !Option.isNone p else Option.isNone p) from by cases neg <;> cases p <;> rfl]
      exact this
    · cases h
  · rename_i hT
    split at h
    · obtain rfl := hu
      obtain rfl := hv
      rename_i p
      refine ⟨_, _, h, rfl, fun w => ?_⟩
      have := run_eq_of neg (eqIn_map 9999 w hT p) (by cases p <;> rfl) (by cases p <;> rfl)
      rw [show (if neg = true then Option.isSome p else Option.isNone p) = (if neg = true then !Option.isNone p else Option.isNone p) from by cases neg <;> cases p <;> rfl]
      exact this
    · cases h
  · cases h

def isEq : BinOp → Option Bool
  | .eql => some false
  | .neq => some true
  | _ => none
def isStr : TV → Option ByteArray
  | .v .str s => some s
  | _ => none
/-- Strings: the comparisons. -/
def strM (op : BinOp) (x y : ByteArray) (K : TV → Prop) : Prop :=
  match op with
  | .eql => K (.v .bool (x.toList == y.toList))
  | .neq => K (.v .bool (!(x.toList == y.toList)))
  | _ => False

def binM (P : Program) (op : BinOp) (T : TypeId) (x y : TV) (K : TV → Prop) : Prop :=
  match asInt x, asInt y with
  | some (k, a), some (k', b) =>
    if k = k' then intM op k a b K else match op with
      | .shl => 0 ≤ b ∧ K (.v (.int k) (k.wrap (a * 2 ^ (min b.toNat k.bits))))
      | .shr => 0 ≤ b ∧ K (.v (.int k) (a.fdiv (2 ^ (min b.toNat k.bits))))
      | _ => False
  | _, _ => match isStr x, isStr y with
    | some a, some b => strM op a b K
    | _, _ => match isEq op with
      | some neg => eqM P neg T x y K
      | none => False

theorem run_eqGuard_of {P : Program} {op : BinOp} {T : TypeId} {x y : Operand} {a b : Value} (w : World) (h1 : ∀ cs, a ≠ .agg cs) (h2 : a ≠ .nilIface) :
    (eqGuard op T x y a b).run P w = .ok () w := by
  unfold eqGuard
  cases a <;> first | exact absurd rfl h2 | exact absurd rfl (h1 _) | (split <;> rfl)

theorem binM_sound {P : Program} {κ : Nat → Nat} {β : Boxes} {h : Heap} {e : Operand → Value} {o : Oper} {op : BinOp} {T T' : TypeId} {X Y : Operand} {x y : TV} {K : TV → Prop}
    (ho : o.op = .binOp op T X Y T') (hm : binM P op T x y K) (hx : Rl κ x (e X)) (hy : Rl κ y (e Y)) : Quiet P κ β h e o K := by
  have he : execOp e o = (do pure (.value (← (do eqGuard op T X Y (e X) (e Y); binOp op T (e X) (e Y))))) := by simp only [execOp, ho]
  unfold binM at hm
  split at hm
  · rename_i k a k' b ha hb
    have ex := asInt_spec ha hx
    have ey := asInt_spec hb hy
    rw [ex, ey] at he
    split at hm
    · rename_i hk
      subst hk
      obtain ⟨tv, u, h1, h2, h3⟩ := intM_sound (P := P) (κ := κ) hm T
      exact Quiet.mk' he h1 h2 fun w _ => by simp [run_eqGuard_of, h3]
    · split at hm
      · exact Quiet.mk' he hm.2 rfl fun w _ => by simp [run_eqGuard_of, binOp, Op.shift, show ¬ b < 0 from by have := hm.1; omega, Kd.val]
      · exact Quiet.mk' he hm.2 rfl fun w _ => by simp [run_eqGuard_of, binOp, Op.shift, show ¬ b < 0 from by have := hm.1; omega, Kd.val]
      · cases hm
  · split at hm
    · rename_i a b ha hb
      have ex : e X = .string a := by
        unfold isStr at ha; split at ha
        · cases ha; exact hx
        · cases ha
      have ey : e Y = .string b := by
        unfold isStr at hb; split at hb
        · cases hb; exact hy
        · cases hb
      rw [ex, ey] at he
      unfold strM at hm
      split at hm
      · exact Quiet.mk' he hm rfl fun w _ => by simp [run_eqGuard_of, binOp, Op.stringOp, Kd.val]
      · exact Quiet.mk' he hm rfl fun w _ => by simp [run_eqGuard_of, binOp, Op.stringOp, Kd.val]
      · cases hm
    · split at hm
      · rename_i neg hn
        have hop : op = (if neg then .neq else .eql) := by
          unfold isEq at hn; split at hn <;> cases hn <;> rfl
        have hg : ∀ w, (eqGuard op T X Y (e X) (e Y)).run P w = .ok () w := by
          intro w
          unfold eqM at hm
          split at hm
          · split at hm
            · rename_i a b ha hb
              rw [asBool_spec ha hx]; exact run_eqGuard_of w (by simp) (by simp)
            · cases hm
          · split at hm
            · obtain hx := hx
              simp only [Rl, Kd.val, Sl.val] at hx
              rw [hx]; exact run_eqGuard_of w (by simp) (by simp)
            · cases hm
          · split at hm
            · obtain hx := hx
              simp only [Rl, Kd.val] at hx
              rw [hx]; exact run_eqGuard_of w (by simp) (by simp)
            · cases hm
          · split at hm
            · obtain hx := hx
              simp only [Rl, Kd.val] at hx
              rw [hx]; exact run_eqGuard_of w (by simp) (by simp)
            · cases hm
          · cases hm
        obtain ⟨tv, u, h1, h2, h3⟩ := eqM_sound hm hx hy
        refine Quiet.mk' he h1 h2 fun w _ => ?_
        rw [← hop] at h3
        simp [hg, h3]
      · cases hm

end Go.Mx
