/-
  One operation of a region: what it comes to; that the machine comes to the same.
-/
import Derived.Test.YtanfmmcpjifgiabMxH
set_option linter.unusedVariables false
set_option linter.unusedSimpArgs false
namespace Go.Mx

/-- A call, over abstract heaps. -/
def CallH (P : Program) (f : FuncId) (args : Array Value) (h : Heap) (R : Value → Heap → Prop) : Prop :=
  ∀ w, Sub h w → Calls P f args w fun e w' => ∃ v h', e = .returned v ∧ Inv h w h' w' ∧ R v h'
theorem CallH.mono {P : Program} {f : FuncId} {args : Array Value} {h : Heap} {R R' : Value → Heap → Prop} (c : CallH P f args h R) (hr : ∀ v h', R v h' → R' v h') : CallH P f args h R' :=
  fun w hw => (c w hw).mono fun e w' ⟨v, h', q1, q2, q3⟩ => ⟨v, h', q1, q2, hr v h' q3⟩
def resV (tp : Bool) (k : Kd) (x : Den k) : Value := bif tp then .tuple (k.comps x).toArray else k.val x
/-- A call, over values of known kinds. -/
def CallT (P : Program) (f : FuncId) (vs : List Value) (tp : Bool) (k : Kd) (h : Heap) (K : Den k → Heap → Prop) : Prop :=
  CallH P f vs.toArray h fun u h' => ∃ x : Den k, u = resV tp k x ∧ K x h'
theorem CallT.mono {P : Program} {f : FuncId} {vs : List Value} {tp : Bool} {k : Kd} {h : Heap} {K K' : Den k → Heap → Prop} (c : CallT P f vs tp k h K) (hr : ∀ x h', K x h' → K' x h') : CallT P f vs tp k h K' :=
  CallH.mono c fun v h' ⟨x, q1, q2⟩ => ⟨x, q1, hr x h' q2⟩

/-- A call of an interface's method. -/
def InvT (P : Program) (name : String) (r : Value) (vs : List Value) (tp : Bool) (k : Kd) (h : Heap) (K : Den k → Heap → Prop) : Prop :=
  ∃ f as, (∀ w, (callMethod r name vs.toArray).run P w = .ok (.enter f as.toArray) w) ∧ CallT P f as tp k h K
/-- A call of a function that is a value. -/
def FnT (P : Program) (v : Value) (vs : List Value) (tp : Bool) (k : Kd) (h : Heap) (K : Den k → Heap → Prop) : Prop :=
  ∃ f as, (∀ w, (do let d ← Deferred.ofValue v vs.toArray; invoke d.target d.args : Sem Next).run P w = .ok (.enter f as.toArray) w) ∧ CallT P f as tp k h K
theorem InvT.mono {P : Program} {name : String} {r : Value} {vs : List Value} {tp : Bool} {k : Kd} {h : Heap} {K K' : Den k → Heap → Prop} (c : InvT P name r vs tp k h K) (hr : ∀ x h', K x h' → K' x h') : InvT P name r vs tp k h K' := by
  obtain ⟨f, as, h1, h2⟩ := c
  exact ⟨f, as, h1, h2.mono hr⟩
theorem FnT.mono {P : Program} {v : Value} {vs : List Value} {tp : Bool} {k : Kd} {h : Heap} {K K' : Den k → Heap → Prop} (c : FnT P v vs tp k h K) (hr : ∀ x h', K x h' → K' x h') : FnT P v vs tp k h K' := by
  obtain ⟨f, as, h1, h2⟩ := c
  exact ⟨f, as, h1, h2.mono hr⟩

def tupKd (P : Program) : List TypeId → Option Kd
  | [] => some .nil
  | t :: r => match kdOf P D t, tupKd P r with
    | some a, some b => some (.pair a b)
    | _, _ => none
/-- What kind a call's result is of; true: several results. -/
def rkOf (P : Program) (T : TypeId) : Option (Bool × Kd) :=
  match P.underlying T with
  | some (.tuple ts) => (tupKd P ts.toList).map (true, ·)
  | some _ => (kdOf P D T).map (false, ·)
  | none => none

def tvRes (tp : Bool) (k : Kd) (x : Den k) : TV := bif tp then .tup k x else .v k x
theorem Rl_res (κ : Nat → Nat) (tp : Bool) (k : Kd) (x : Den k) : Rl κ (tvRes tp k x) (resV tp k x) := by cases tp <;> rfl

theorem beq_no {a b : Nat} (h : a ≠ b) : Nat.beq a b = false := by
  cases e : Nat.beq a b with
  | false => rfl
  | true => exact absurd (Nat.eq_of_beq_eq_true e) h

/-! ### the state -/
structure St (h0 : Heap) (w0 : World) (n : Nat) (F : List Nat) (Z : Nat → Prop) (κ : Nat → Nat) (ρ : Slots) (β : Boxes) (h : Heap) (a : Act) (w : World) : Prop where
  inv : Inv h0 w0 h w
  box : ∀ i l, look β i = some l → (∃ t, w.heap[κ i]? = some (.cells (entCells l).toArray t (0, 0))) ∧ h (κ i) = none ∧ w0.heap.size ≤ κ i
  inj : ∀ i j l m, look β i = some l → look β j = some m → κ i = κ j → i = j
  z : ∀ b, Z b → b < w.heap.size ∧ h b = none
  zf : ∀ i l, look β i = some l → Z (κ i) → F.contains i = true
  size : a.tmps.size = n
  slot : ∀ t, Rl κ (ρ t) (a.tmps.getD t undef)
  defers : a.defers = []

structure Fr (W F : List Nat) (Z : Nat → Prop) (κ : Nat → Nat) (a : Act) (w : World) (κ' : Nat → Nat) (a' : Act) (w' : World) : Prop where
  slot : ∀ t, W.contains t = false → a'.tmps.getD t undef = a.tmps.getD t undef
  id : ∀ i, W.contains i = false ∨ F.contains i = true → κ' i = κ i
  blk : ∀ b, Z b → w'.heap[b]? = w.heap[b]?

theorem St.evOk {h0 w0 n F Z κ ρ β h a w} (s : St h0 w0 n F Z κ ρ β h a w) : EvOk κ ρ a.eval := ⟨s.slot, fun _ => rfl, fun _ => rfl, fun _ => rfl⟩
theorem St.sb {h0 w0 n F Z κ ρ β h a w} (s : St h0 w0 n F Z κ ρ β h a w) : SB κ β h w := ⟨s.inv.sub, fun i l e => (s.box i l e).1⟩
theorem St.box_lt {h0 w0 n F Z κ ρ β h a w} (s : St h0 w0 n F Z κ ρ β h a w) {i : Nat} {l : List Ent} (e : look β i = some l) : κ i < w.heap.size := by
  obtain ⟨t, q⟩ := (s.box i l e).1
  exact (Array.getElem?_eq_some_iff.1 q).1

def putS (ρ : Slots) (d : Option Nat) (v : TV) : Slots :=
  match d with
  | some d => fun t => bif Nat.beq t d then v else ρ t
  | none => ρ
def dstOk (n : Nat) (d : Option Nat) : Bool :=
  match d with
  | some d => Nat.blt d n
  | none => true

theorem getD_put {a : Act} {d : Option Nat} {u : Value} {n : Nat} (hn : a.tmps.size = n) (hd : dstOk n d = true) (t : Nat) :
    (a.put d u).tmps.getD t undef = if d = some t then u else a.tmps.getD t undef := by
  cases d with
  | none => simp [Act.put]
  | some d =>
    simp only [Act.put, Option.some.injEq]
    simp only [dstOk, Nat.blt_eq] at hd
    rw [Array.getD_eq_getD_getElem?, Array.getD_eq_getD_getElem?, Array.getElem?_setIfInBounds]
    by_cases e : d = t
    · subst e; simp [hn, hd]
    · simp [e]
theorem size_put (a : Act) (d : Option Nat) (u : Value) : (a.put d u).tmps.size = a.tmps.size := by cases d <;> simp [Act.put]
theorem defers_put (a : Act) (d : Option Nat) (u : Value) : (a.put d u).defers = a.defers := by cases d <;> simp [Act.put]

theorem slot_put {κ : Nat → Nat} {ρ : Slots} {a : Act} {d : Option Nat} {u : Value} {v : TV} {n : Nat} (hs : ∀ t, Rl κ (ρ t) (a.tmps.getD t undef)) (hn : a.tmps.size = n) (hd : dstOk n d = true) (hr : Rl κ v u) (t : Nat) :
    Rl κ (putS ρ d v t) ((a.put d u).tmps.getD t undef) := by
  rw [getD_put hn hd]
  cases d with
  | none => simpa [putS] using hs t
  | some d =>
    simp only [putS, Option.some.injEq]
    by_cases e : d = t
    · subst e; simp [hr]
    · have : Nat.beq t d = false := beq_no fun h => e h.symm
      rw [if_neg e, this]; exact hs t

/-- A step that leaves the hidden variables alone. -/
theorem St.step {h0 w0 n F Z κ ρ β h a w} (s : St h0 w0 n F Z κ ρ β h a w) {h' : Heap} {w' : World} (q : Inv h w h' w') {d : Option Nat} (hd : dstOk n d = true) {v : TV} {u : Value} (hr : Rl κ v u) :
    St h0 w0 n F Z κ (putS ρ d v) β h' (a.put d u) w' ∧ Fr d.toList F Z κ a w κ (a.put d u) w' := by
  refine ⟨⟨s.inv.trans q, fun i l e => ?_, s.inj, fun b hb => ?_, s.zf, by rw [size_put]; exact s.size, slot_put s.slot s.size hd hr, by rw [defers_put]; exact s.defers⟩, ⟨fun t ht => ?_, fun _ _ => rfl, fun b hb => ?_⟩⟩
  · obtain ⟨⟨t, q1⟩, q2, q3⟩ := s.box i l e
    obtain ⟨k1, k2⟩ := q.keep (κ i) (s.box_lt e) q2
    exact ⟨⟨t, k1.trans q1⟩, k2, q3⟩
  · obtain ⟨z1, z2⟩ := s.z b hb
    exact ⟨Nat.lt_of_lt_of_le z1 q.size, (q.keep b z1 z2).2⟩
  · rw [getD_put s.size hd]
    rw [if_neg]
    intro e
    subst e
    simp at ht
  · obtain ⟨z1, z2⟩ := s.z b hb
    exact (q.keep b z1 z2).1

/-- What is known of a hidden variable's address is forgotten. -/
def wipe1 (d : Nat) : TV → TV
  | .box i o => bif Nat.beq i d then .junk else .box i o
  | .boxi i o n sz ix => bif Nat.beq i d then .junk else .boxi i o n sz ix
  | v => v
theorem Rl_wipe {κ κ' : Nat → Nat} {d : Nat} (hk : ∀ i, i ≠ d → κ' i = κ i) {v : TV} {u : Value} (r : Rl κ v u) : Rl κ' (wipe1 d v) u := by
  cases v with
  | box i o =>
    simp only [wipe1]
    cases e : Nat.beq i d
    · have : i ≠ d := fun h => by subst h; simp at e
      simp only [cond_false, Rl, hk i this]; exact r
    · trivial
  | boxi i o n sz ix =>
    simp only [wipe1]
    cases e : Nat.beq i d
    · have : i ≠ d := fun h => by subst h; simp at e
      simp only [cond_false, Rl, hk i this]; exact r
    · trivial
  | _ => exact r

/-- A new hidden variable. -/
theorem St.hide {h0 w0 n F Z κ ρ β h a w} (s : St h0 w0 n F Z κ ρ β h a w) {d : Nat} (hd : dstOk n (some d) = true) (hf : F.contains d = false) (l : List Ent) (T : TypeId) :
    ∃ κ', St h0 w0 n F Z κ' (putS (fun t => wipe1 d (ρ t)) (some d) (.box d 0)) ((d, l) :: β) h (a.put (some d) (.pointer (some ⟨w.heap.size, 0, none⟩))) (w.alloc (.cells (entCells l).toArray T)) ∧
      Fr [d] F Z κ a w κ' (a.put (some d) (.pointer (some ⟨w.heap.size, 0, none⟩))) (w.alloc (.cells (entCells l).toArray T)) := by
  refine ⟨fun i => if i = d then w.heap.size else κ i, ⟨s.inv.hide _, fun i m e => ?_, fun i j m m' e1 e2 e => ?_, fun b hb => ?_, fun i m e hz => ?_, by rw [size_put]; exact s.size, ?_, by rw [defers_put]; exact s.defers⟩, ⟨fun t ht => ?_, fun i hi => ?_, fun b hb => ?_⟩⟩
  · simp only [look] at e
    by_cases c : i = d
    · subst c
      simp at e; subst e
      simp only [if_true]
      exact ⟨⟨T, heap_alloc_new w _⟩, none_of_size s.inv.sub, s.inv.size⟩
    · have : Nat.beq i d = false := beq_no c
      rw [this] at e
      simp only [cond_false] at e
      obtain ⟨⟨t, q1⟩, q2, q3⟩ := s.box i m e
      simp only [if_neg c]
      exact ⟨⟨t, by rw [heap_alloc_old w _ (s.box_lt e)]; exact q1⟩, q2, q3⟩
  · simp only [look] at e1 e2
    by_cases c1 : i = d <;> by_cases c2 : j = d
    · rw [c1, c2]
    · have : Nat.beq j d = false := beq_no c2
      rw [this] at e2
      simp only [cond_false] at e2
      simp only [c1, if_true, if_neg c2] at e
      have := s.box_lt e2
      omega
    · have : Nat.beq i d = false := beq_no c1
      rw [this] at e1
      simp only [cond_false] at e1
      simp only [c2, if_true, if_neg c1] at e
      have := s.box_lt e1
      omega
    · have b1 : Nat.beq i d = false := beq_no c1
      have b2 : Nat.beq j d = false := beq_no c2
      rw [b1] at e1
      rw [b2] at e2
      simp only [cond_false] at e1 e2
      simp only [if_neg c1, if_neg c2] at e
      exact s.inj i j m m' e1 e2 e
  · obtain ⟨z1, z2⟩ := s.z b hb
    exact ⟨by rw [size_alloc]; omega, z2⟩
  · simp only [look] at e
    by_cases c : i = d
    · simp only [c, if_true] at hz
      have := (s.z _ hz).1
      omega
    · have : Nat.beq i d = false := beq_no c
      rw [this] at e
      simp only [cond_false] at e
      simp only [if_neg c] at hz
      exact s.zf i m e hz
  · exact slot_put (ρ := fun t => wipe1 d (ρ t)) (fun t => Rl_wipe (fun i hi => by simp [hi]) (s.slot t)) s.size hd (by simp [Rl])
  · rw [getD_put s.size hd, if_neg]
    intro e
    simp at ht
    cases e
    exact ht rfl
  · rcases hi with hi | hi
    · simp at hi
      simp [hi]
    · have : i ≠ d := fun e => by subst e; rw [hf] at hi; cases hi
      simp [this]
  · exact heap_alloc_old w _ (s.z b hb).1

/-- A hidden variable is written. -/
theorem St.boxed {h0 w0 n F Z κ ρ β h a w} (s : St h0 w0 n F Z κ ρ β h a w) {d : Option Nat} (hd : dstOk n d = true) {i : Nat} {l m : List Ent} (hl : look β i = some l) (hf : F.contains i = false)
    {w' : World} (q : Wrote (κ i) (entCells m) w w') {v : TV} {u : Value} (hr : Rl κ v u) :
    St h0 w0 n F Z κ (putS ρ d v) ((i, m) :: β) h (a.put d u) w' ∧ Fr d.toList F Z κ a w κ (a.put d u) w' := by
  obtain ⟨⟨t0, b1⟩, b2, b3⟩ := s.box i l hl
  have hnz : ¬ Z (κ i) := fun hz => by have := s.zf i l hl hz; rw [hf] at this; cases this
  refine ⟨⟨q.hid s.inv b2 b3, fun j mm e => ?_, fun j k m1 m2 e1 e2 e => ?_, fun b hb => ?_, fun j mm e hz => ?_, by rw [size_put]; exact s.size, slot_put s.slot s.size hd hr, by rw [defers_put]; exact s.defers⟩, ⟨fun t ht => ?_, fun _ _ => rfl, fun b hb => ?_⟩⟩
  · simp only [look] at e
    by_cases c : j = i
    · subst c
      simp at e; subst e
      obtain ⟨t, f, old, q1, q2, _⟩ := q.here
      rw [b1] at q1; cases q1
      exact ⟨⟨_, q2⟩, b2, b3⟩
    · have : Nat.beq j i = false := beq_no c
      rw [this] at e
      simp only [cond_false] at e
      obtain ⟨⟨t, q1⟩, q2, q3⟩ := s.box j mm e
      exact ⟨⟨t, by rw [q.else_ _ (fun e' => c (s.inj j i mm l e hl e'))]; exact q1⟩, q2, q3⟩
  · have f : ∀ j mm, look ((i, m) :: β) j = some mm → ∃ m', look β j = some m' := by
      intro j mm e
      simp only [look] at e
      by_cases c : j = i
      · subst c; exact ⟨l, hl⟩
      · have : Nat.beq j i = false := beq_no c
        rw [this] at e
        exact ⟨mm, e⟩
    obtain ⟨m1', e1'⟩ := f j m1 e1
    obtain ⟨m2', e2'⟩ := f k m2 e2
    exact s.inj j k m1' m2' e1' e2' e
  · obtain ⟨z1, z2⟩ := s.z b hb
    exact ⟨by rw [q.size]; exact z1, z2⟩
  · simp only [look] at e
    by_cases c : j = i
    · subst c; exact absurd hz hnz
    · have : Nat.beq j i = false := beq_no c
      rw [this] at e
      simp only [cond_false] at e
      exact s.zf j mm e hz
  · rw [getD_put s.size hd, if_neg]
    intro e
    subst e
    simp at ht
  · exact q.else_ b (fun e => by subst e; exact hnz hb)

end Go.Mx
