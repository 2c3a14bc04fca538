/-
  One operation of a region: what it comes to; that the machine comes to the same.
  One operation, whatever it is.
-/
import Derived.Test.YtndhbkhhehleaaaMxG
import Derived.Test.YtndhbkhhehleaaaMxMi
set_option linter.unusedVariables false
set_option linter.unusedSimpArgs false
namespace Go.Mx

def CallH (P : Program) (f : FuncId) (args : Array Value) (h : Heap) (R : Value → Heap → Prop) : Prop :=
  ∀ w, Sub h w → Calls P f args w fun e w' => ∃ v h', e = .returned v ∧ Inv h w h' w' ∧ R v h'
def resV (tp : Bool) (k : Kd) (x : Den k) : Value := bif tp then .tuple (k.comps x).toArray else k.val x
def CallT (P : Program) (f : FuncId) (vs : List Value) (tp : Bool) (k : Kd) (h : Heap) (K : Den k → Heap → Prop) : Prop :=
  CallH P f vs.toArray h fun u h' => ∃ x : Den k, u = resV tp k x ∧ K x h'
def ExtT (P : Program) (f : FuncId) (vs : List Value) (tp : Bool) (k : Kd) (h : Heap) (K : Den k → Heap → Prop) : Prop :=
  ∀ w, Sub h w → ∃ (x : Den k) (h' : Heap) (w' : World), (callFunc f vs.toArray).run P w = .ok (.value (resV tp k x)) w' ∧ Inv h w h' w' ∧ K x h'
def InvT (P : Program) (name : String) (r : Value) (vs : List Value) (tp : Bool) (k : Kd) (h : Heap) (K : Den k → Heap → Prop) : Prop :=
  ∃ f as, (∀ w, (callMethod r name vs.toArray).run P w = .ok (.enter f as.toArray) w) ∧ CallT P f as tp k h K
def FnT (P : Program) (v : Value) (vs : List Value) (tp : Bool) (k : Kd) (h : Heap) (K : Den k → Heap → Prop) : Prop :=
  ∃ f as, (∀ w, (do let d ← Deferred.ofValue v vs.toArray; invoke d.target d.args : Sem Next).run P w = .ok (.enter f as.toArray) w) ∧ CallT P f as tp k h K
def tupKd (P : Program) : List TypeId → Option Kd
  | [] => some .nil
  | t :: r => match kdOf P D t, tupKd P r with
    | some a, some b => some (.pair a b)
    | _, _ => none
def rkOf (P : Program) (T : TypeId) : Option (Bool × Kd) :=
  match P.underlying T with
  | some (.tuple ts) => (tupKd P ts.toList).map (true, ·)
  | some _ => (kdOf P D T).map (false, ·)
  | none => none

def tvRes (tp : Bool) (k : Kd) (x : Den k) : TV := bif tp then .tup k x else .v k x
theorem Rl_res (κ : Nat → Nat) (tp : Bool) (k : Kd) (x : Den k) : Rl κ (tvRes tp k x) (resV tp k x) := by cases tp <;> rfl

theorem beq_no {a b : Nat} (h : a ≠ b) : Nat.beq a b = false := by
  cases e : Nat.beq a b with
  | false => rfl
  | true => exact absurd (Nat.eq_of_beq_eq_true e) h

structure St (D0 : List Deferred) (h0 : Heap) (w0 : World) (n : Nat) (F : List Nat) (Z : Nat → Prop) (κ : Nat → Nat) (ρ : Slots) (β : Boxes) (h : Heap) (a : Act) (w : World) : Prop where
  inv : Inv h0 w0 h w
  box : ∀ i l, look β i = some l → (∃ t, w.heap[κ i]? = some (.cells (entCells l).toArray t (0, 0))) ∧ h (κ i) = none ∧ w0.heap.size ≤ κ i
  inj : ∀ i j l m, look β i = some l → look β j = some m → κ i = κ j → i = j
  z : ∀ b, Z b → b < w.heap.size ∧ h b = none
  zf : ∀ i l, look β i = some l → Z (κ i) → F.contains i = true
  size : a.tmps.size = n
  slot : ∀ t, Rl κ (ρ t) (a.tmps.getD t undef)
  defers : a.defers = D0

structure Fr (W F : List Nat) (Z : Nat → Prop) (κ : Nat → Nat) (a : Act) (w : World) (κ' : Nat → Nat) (a' : Act) (w' : World) : Prop where
  slot : ∀ t, W.contains t = false → a'.tmps.getD t undef = a.tmps.getD t undef
  id : ∀ i, W.contains i = false ∨ F.contains i = true → κ' i = κ i
  blk : ∀ b, Z b → w'.heap[b]? = w.heap[b]?

theorem St.evOk {D0 h0 w0 n F Z κ ρ β h a w} (s : St D0 h0 w0 n F Z κ ρ β h a w) : EvOk κ ρ a.eval := ⟨s.slot, fun _ => rfl, fun _ => rfl, fun _ => rfl⟩
theorem St.sb {D0 h0 w0 n F Z κ ρ β h a w} (s : St D0 h0 w0 n F Z κ ρ β h a w) : SB κ β h w := ⟨s.inv.sub, fun i l e => (s.box i l e).1⟩
theorem St.box_lt {D0 h0 w0 n F Z κ ρ β h a w} (s : St D0 h0 w0 n F Z κ ρ β h a w) {i : Nat} {l : List Ent} (e : look β i = some l) : κ i < w.heap.size := by
  obtain ⟨t, q⟩ := (s.box i l e).1
  exact (Array.getElem?_eq_some_iff.1 q).1

def putS (ρ : Slots) (d : Option Nat) (v : TV) : Slots :=
  match d with
  | some d => fun t => bif Nat.beq t d then v else ρ t
  | none => ρ
def dstOk (n : Nat) (d : Option Nat) : Bool :=
  match d with
  | some d => Nat.blt d n
  | none => true

theorem getD_put {a : Act} {d : Option Nat} {u : Value} {n : Nat} (hn : a.tmps.size = n) (hd : dstOk n d = true) (t : Nat) :
    (a.put d u).tmps.getD t undef = if d = some t then u else a.tmps.getD t undef := by
  cases d with
  | none => simp [Act.put]
  | some d =>
    simp only [Act.put, Option.some.injEq]
    simp only [dstOk, Nat.blt_eq] at hd
    rw [Array.getD_eq_getD_getElem?, Array.getD_eq_getD_getElem?, Array.getElem?_setIfInBounds]
    by_cases e : d = t
    · subst e; simp [hn, hd]
    · simp [e]
theorem size_put (a : Act) (d : Option Nat) (u : Value) : (a.put d u).tmps.size = a.tmps.size := by cases d <;> simp [Act.put]
theorem defers_put (a : Act) (d : Option Nat) (u : Value) : (a.put d u).defers = a.defers := by cases d <;> simp [Act.put]

theorem slot_put {κ : Nat → Nat} {ρ : Slots} {a : Act} {d : Option Nat} {u : Value} {v : TV} {n : Nat} (hs : ∀ t, Rl κ (ρ t) (a.tmps.getD t undef)) (hn : a.tmps.size = n) (hd : dstOk n d = true) (hr : Rl κ v u) (t : Nat) :
    Rl κ (putS ρ d v t) ((a.put d u).tmps.getD t undef) := by
  rw [getD_put hn hd]
  cases d with
  | none => simpa [putS] using hs t
  | some d =>
    simp only [putS, Option.some.injEq]
    by_cases e : d = t
    · subst e; simp [hr]
    · have : Nat.beq t d = false := beq_no fun h => e h.symm
      rw [if_neg e, this]; exact hs t

theorem St.step {D0 h0 w0 n F Z κ ρ β h a w} (s : St D0 h0 w0 n F Z κ ρ β h a w) {h' : Heap} {w' : World} (q : Inv h w h' w') {d : Option Nat} (hd : dstOk n d = true) {v : TV} {u : Value} (hr : Rl κ v u) :
    St D0 h0 w0 n F Z κ (putS ρ d v) β h' (a.put d u) w' ∧ Fr d.toList F Z κ a w κ (a.put d u) w' := by
  refine ⟨⟨s.inv.trans q, fun i l e => ?_, s.inj, fun b hb => ?_, s.zf, by rw [size_put]; exact s.size, slot_put s.slot s.size hd hr, by rw [defers_put]; exact s.defers⟩, ⟨fun t ht => ?_, fun _ _ => rfl, fun b hb => ?_⟩⟩
  · obtain ⟨⟨t, q1⟩, q2, q3⟩ := s.box i l e
    obtain ⟨k1, k2⟩ := q.keep (κ i) (s.box_lt e) q2
    exact ⟨⟨t, k1.trans q1⟩, k2, q3⟩
  · obtain ⟨z1, z2⟩ := s.z b hb
    exact ⟨Nat.lt_of_lt_of_le z1 q.size, (q.keep b z1 z2).2⟩
  · rw [getD_put s.size hd]
    rw [if_neg]
    intro e
    subst e
    simp at ht
  · obtain ⟨z1, z2⟩ := s.z b hb
    exact (q.keep b z1 z2).1

def wipe1 (d : Nat) : TV → TV
  | .box i o => bif Nat.beq i d then .junk else .box i o
  | .boxi i o n sz ix => bif Nat.beq i d then .junk else .boxi i o n sz ix
  | v => v
theorem Rl_wipe {κ κ' : Nat → Nat} {d : Nat} (hk : ∀ i, i ≠ d → κ' i = κ i) {v : TV} {u : Value} (r : Rl κ v u) : Rl κ' (wipe1 d v) u := by
  cases v with
  | box i o =>
    simp only [wipe1]
    cases e : Nat.beq i d
    · have : i ≠ d := fun h => by subst h; simp at e
      simp only [cond_false, Rl, hk i this]; exact r
    · trivial
  | boxi i o n sz ix =>
    simp only [wipe1]
    cases e : Nat.beq i d
    · have : i ≠ d := fun h => by subst h; simp at e
      simp only [cond_false, Rl, hk i this]; exact r
    · trivial
  | _ => exact r

theorem St.hide {D0 h0 w0 n F Z κ ρ β h a w} (s : St D0 h0 w0 n F Z κ ρ β h a w) {d : Nat} (hd : dstOk n (some d) = true) (hf : F.contains d = false) (l : List Ent) (T : TypeId) :
    ∃ κ', St D0 h0 w0 n F Z κ' (putS (fun t => wipe1 d (ρ t)) (some d) (.box d 0)) ((d, l) :: β) h (a.put (some d) (.pointer (some ⟨w.heap.size, 0, none⟩))) (w.alloc (.cells (entCells l).toArray T)) ∧
      Fr [d] F Z κ a w κ' (a.put (some d) (.pointer (some ⟨w.heap.size, 0, none⟩))) (w.alloc (.cells (entCells l).toArray T)) := by
  refine ⟨fun i => if i = d then w.heap.size else κ i, ⟨s.inv.hide _, fun i m e => ?_, fun i j m m' e1 e2 e => ?_, fun b hb => ?_, fun i m e hz => ?_, by rw [size_put]; exact s.size, ?_, by rw [defers_put]; exact s.defers⟩, ⟨fun t ht => ?_, fun i hi => ?_, fun b hb => ?_⟩⟩
  · simp only [look] at e
    by_cases c : i = d
    · subst c
      simp at e; subst e
      simp only [if_true]
      exact ⟨⟨T, heap_alloc_new w _⟩, none_of_size s.inv.sub, s.inv.size⟩
    · have : Nat.beq i d = false := beq_no c
      rw [this] at e
      simp only [cond_false] at e
      obtain ⟨⟨t, q1⟩, q2, q3⟩ := s.box i m e
      simp only [if_neg c]
      exact ⟨⟨t, by rw [heap_alloc_old w _ (s.box_lt e)]; exact q1⟩, q2, q3⟩
  · simp only [look] at e1 e2
    by_cases c1 : i = d <;> by_cases c2 : j = d
    · rw [c1, c2]
    · have : Nat.beq j d = false := beq_no c2
      rw [this] at e2
      simp only [cond_false] at e2
      simp only [c1, if_true, if_neg c2] at e
      have := s.box_lt e2
      omega
    · have : Nat.beq i d = false := beq_no c1
      rw [this] at e1
      simp only [cond_false] at e1
      simp only [c2, if_true, if_neg c1] at e
      have := s.box_lt e1
      omega
    · have b1 : Nat.beq i d = false := beq_no c1
      have b2 : Nat.beq j d = false := beq_no c2
      rw [b1] at e1
      rw [b2] at e2
      simp only [cond_false] at e1 e2
      simp only [if_neg c1, if_neg c2] at e
      exact s.inj i j m m' e1 e2 e
  · obtain ⟨z1, z2⟩ := s.z b hb
    exact ⟨by rw [size_alloc]; omega, z2⟩
  · simp only [look] at e
    by_cases c : i = d
    · simp only [c, if_true] at hz
      have := (s.z _ hz).1
      omega
    · have : Nat.beq i d = false := beq_no c
      rw [this] at e
      simp only [cond_false] at e
      simp only [if_neg c] at hz
      exact s.zf i m e hz
  · exact slot_put (ρ := fun t => wipe1 d (ρ t)) (fun t => Rl_wipe (fun i hi => by simp [hi]) (s.slot t)) s.size hd (by simp [Rl])
  · rw [getD_put s.size hd, if_neg]
    intro e
    simp at ht
    cases e
    exact ht rfl
  · rcases hi with hi | hi
    · simp at hi
      simp [hi]
    · have : i ≠ d := fun e => by subst e; rw [hf] at hi; cases hi
      simp [this]
  · exact heap_alloc_old w _ (s.z b hb).1

theorem St.boxed {D0 h0 w0 n F Z κ ρ β h a w} (s : St D0 h0 w0 n F Z κ ρ β h a w) {d : Option Nat} (hd : dstOk n d = true) {i : Nat} {l m : List Ent} (hl : look β i = some l) (hf : F.contains i = false)
    {w' : World} (q : Wrote (κ i) (entCells m) w w') {v : TV} {u : Value} (hr : Rl κ v u) :
    St D0 h0 w0 n F Z κ (putS ρ d v) ((i, m) :: β) h (a.put d u) w' ∧ Fr d.toList F Z κ a w κ (a.put d u) w' := by
  obtain ⟨⟨t0, b1⟩, b2, b3⟩ := s.box i l hl
  have hnz : ¬ Z (κ i) := fun hz => by have := s.zf i l hl hz; rw [hf] at this; cases this
  refine ⟨⟨q.hid s.inv b2 b3, fun j mm e => ?_, fun j k m1 m2 e1 e2 e => ?_, fun b hb => ?_, fun j mm e hz => ?_, by rw [size_put]; exact s.size, slot_put s.slot s.size hd hr, by rw [defers_put]; exact s.defers⟩, ⟨fun t ht => ?_, fun _ _ => rfl, fun b hb => ?_⟩⟩
  · simp only [look] at e
    by_cases c : j = i
    · subst c
      simp at e; subst e
      obtain ⟨t, f, old, q1, q2, _⟩ := q.here
      rw [b1] at q1; cases q1
      exact ⟨⟨_, q2⟩, b2, b3⟩
    · have : Nat.beq j i = false := beq_no c
      rw [this] at e
      simp only [cond_false] at e
      obtain ⟨⟨t, q1⟩, q2, q3⟩ := s.box j mm e
      exact ⟨⟨t, by rw [q.else_ _ (fun e' => c (s.inj j i mm l e hl e'))]; exact q1⟩, q2, q3⟩
  · have f : ∀ j mm, look ((i, m) :: β) j = some mm → ∃ m', look β j = some m' := by
      intro j mm e
      simp only [look] at e
      by_cases c : j = i
      · subst c; exact ⟨l, hl⟩
      · have : Nat.beq j i = false := beq_no c
        rw [this] at e
        exact ⟨mm, e⟩
    obtain ⟨m1', e1'⟩ := f j m1 e1
    obtain ⟨m2', e2'⟩ := f k m2 e2
    exact s.inj j k m1' m2' e1' e2' e
  · obtain ⟨z1, z2⟩ := s.z b hb
    exact ⟨by rw [q.size]; exact z1, z2⟩
  · simp only [look] at e
    by_cases c : j = i
    · subst c; exact absurd hz hnz
    · have : Nat.beq j i = false := beq_no c
      rw [this] at e
      simp only [cond_false] at e
      exact s.zf j mm e hz
  · rw [getD_put s.size hd, if_neg]
    intro e
    subst e
    simp at ht
  · exact q.else_ b (fun e => by subst e; exact hnz hb)

end Go.Mx

namespace Go.Mx

def hideI (F : List Nat) (d : Option Nat) (l : List Ent) (ρ : Slots) (β : Boxes) (h : Heap) (K : Slots → Boxes → Heap → Prop) : Prop :=
  match d with
  | some d => bif F.contains d then False else K (putS (fun t => wipe1 d (ρ t)) (some d) (.box d 0)) ((d, l) :: β) h
  | none => False

def elems (k : Kd) : Nat → List (Nat × TV) → Option (List (Den k))
  | _, [] => some []
  | i, (j, t) :: r => bif Nat.beq j i then (match tvVal k t, elems k (i + 1) r with
    | some x, some l => some (x :: l)
    | _, _ => none) else none

def callOk (P : Program) (f : FuncId) : Bool :=
  match P.funcs[f]? with
  | some fn => !(fn.name == "runtime.NumGoroutine") && fn.body.isSome
  | none => false

def storeI (P : Program) (F : List Nat) (T : TypeId) (a x : TV) (β : Boxes) (h : Heap) (K : Boxes → Heap → Prop) : Prop :=
  match kdOf P D T with
  | some k => match tvVal k x with
    | some y => match a with
      | .v .ptr p => deref p fun a => st k h a y fun h' => K β h'
      | .box i off => bif F.contains i then False else match look β i with
        | some l => match putBox l off (k.dis y) with
          | some m => flatOr k y (K ((i, m) :: β) h)
          | none => False
        | none => False
      | .boxi i off n sz ix => bif F.contains i then False else match look β i with
        | some l => match getBox (.arr n k) l off with
          | some f => match putBox l off [⟨.arr n k, aset (n := n) (a := k) f ix.toNat y⟩] with
            | some m => bif Nat.beq k.size sz then flatOr k y (K ((i, m) :: β) h) else False
            | none => False
          | none => False
        | none => False
      | _ => False
    | none => False
  | none => False

def appendI (P : Program) (argTypes : Array TypeId) (args : List TV) (h : Heap) (K : Sl → Heap → Prop) : Prop :=
  match argTypes[0]?, argTypes[1]?, args with
  | some T, some T', [.v .sl s, .v .sl x] => match P.underlying T, P.underlying T' with
    | some (.slice e), some (.slice _) => match kdOf P D e, P.info? e with
      | some k, some i => bif Nat.beq i.bytes 0 then False else appendM k.size i.bytes h s x K
      | _, _ => False
    | _, _ => False
  | some T, some T', [.v .sl s, .v (.int _) n] => match P.underlying T, P.underlying T' with
    | some (.slice e), some (.int _) => match kdOf P D e, P.info? e with
      | some k, some i => bif Nat.beq i.bytes 0 || Nat.beq k.size 0 then False else appendZM k i.bytes h s n K
      | _, _ => False
    | _, _ => False
  | _, _, _ => False
def copyI (P : Program) (argTypes : Array TypeId) (args : List TV) (h : Heap) (K : Int → Heap → Prop) : Prop :=
  match argTypes[0]?, args with
  | some T, [.v .sl d, .v .sl s] => match P.underlying T with
    | some (.slice e) => match kdOf P D e with
      | some k => copyM k.size h d s K
      | none => False
    | _ => False
  | _, _ => False

def makeI (P : Program) (T : TypeId) (n c : TV) (h : Heap) (K : Sl → Heap → Prop) : Prop :=
  match P.underlying T with
  | some (.slice e) => match kdOf P D e, P.info? e with
    | some k, some i => bif Nat.beq k.size 0 then False else match asInt n, asInt c with
      | some (_, n), some (_, c) => makeM k i.bytes h n c K
      | _, _ => False
    | _, _ => False
  | _ => False

def litI (P : Program) (T : TypeId) (len : Nat) (parts : List (Nat × TV)) (h : Heap) (K : Sl → Heap → Prop) : Prop :=
  match P.underlying T with
  | some (.slice e) => match kdOf P D e with
    | some k => match elems k 0 parts with
      | some xs => bif Nat.beq xs.length len && Nat.ble (len * k.size) 16777216 && k.plain && !(Nat.beq k.size 0) then new h (xs.flatMap k.cells) fun a h' => K ⟨some a, len, len⟩ h' else False
      | none => False
    | none => False
  | _ => False

def callI (P : Program) (f : FuncId) (T : TypeId) (args : List TV) (h : Heap) (K : TV → Heap → Prop) : Prop :=
  bif callOk P f then match rkOf P T with
    | some (tp, k) => match tvArgs args with
      | some vs => CallT P f vs tp k h fun x h' => K (tvRes tp k x) h'
      | none => False
    | none => False
  else match rkOf P T with
    | some (tp, k) => match tvArgs args with
      | some vs => ExtT P f vs tp k h fun x h' => K (tvRes tp k x) h'
      | none => False
    | none => False

def taI (P : Program) (T : TypeId) (x : TV) (K : Option Nat → Prop) : Prop :=
  match x, P.underlying T with
  | .v .iface u, some (.map _ _) => ∃ m, u = .iface T (.map m) ∧ K m
  | _, _ => False

def invI (P : Program) (name : String) (r : TV) (T : TypeId) (args : List TV) (h : Heap) (K : TV → Heap → Prop) : Prop :=
  match rkOf P T with
  | some (tp, k) => match r with
    | .v .iface u => match tvArgs args with
      | some vs => InvT P name u vs tp k h fun x h' => K (tvRes tp k x) h'
      | none => False
    | _ => False
  | none => False
def fnI (P : Program) (g : TV) (T : TypeId) (args : List TV) (h : Heap) (K : TV → Heap → Prop) : Prop :=
  match rkOf P T with
  | some (tp, k) => match g with
    | .v .fn u => match tvArgs args with
      | some vs => FnT P u vs tp k h fun x h' => K (tvRes tp k x) h'
      | none => False
    | _ => False
  | none => False

def plainOr (k : Kd) (y : Den k) (p : Prop) : Prop := bif k.plain then p else ones k y ∧ p
theorem plainOr_spec {k : Kd} {y : Den k} {p : Prop} (h : plainOr k y p) : (k.val y).cells = (k.cells y).toArray ∧ p := by
  unfold plainOr at h
  cases e : k.plain
  · rw [e] at h; exact ⟨val_cells_of h.1, h.2⟩
  · rw [e] at h; exact ⟨Kd.val_cells e y, h⟩
theorem plainOr_mono {k : Kd} {y : Den k} {p q : Prop} (h : plainOr k y p) (f : p → q) : plainOr k y q := by
  unfold plainOr at h ⊢
  cases e : k.plain
  · rw [e] at h; exact ⟨h.1, f h.2⟩
  · rw [e] at h; exact f h
def effI (P : Program) (F : List Nat) (hid : Bool) (o : Oper) (ρ : Slots) (β : Boxes) (h : Heap) (K : Slots → Boxes → Heap → Prop) : Prop :=
  match o.op with
  | .alloc T => match kdOf P D T with
    | some k => bif hid then hideI F o.dst (k.dis k.zero) ρ β h K else new h (k.cells k.zero) fun a h' => K (putS ρ o.dst (.v .ptr (some a))) β h'
    | none => False
  | .box T x => match kdOf P D T with
    | some k => match tvVal k (ev ρ x) with
      | some y => plainOr k y (bif hid then hideI F o.dst (k.dis y) ρ β h K else new h (k.cells y) fun a h' => K (putS ρ o.dst (.v .ptr (some a))) β h')
      | none => False
    | none => False
  | .store T a x => storeI P F T (ev ρ a) (ev ρ x) β h fun β' h' => K (putS ρ o.dst .junk) β' h'
  | .buildSlice T len parts => litI P T len (parts.toList.map fun p => (p.1, ev ρ p.2)) h fun s h' => K (putS ρ o.dst (.v .sl s)) β h'
  | .makeSlice T n c => makeI P T (ev ρ n) (ev ρ c) h fun s h' => K (putS ρ o.dst (.v .sl s)) β h'
  | .makeMap T none => mkMapI P T h fun b h' => K (putS ρ o.dst (.v .map (some b))) β h'
  | .mapUpdate T x i v => putI P T (ev ρ x) (ev ρ i) (ev ρ v) h fun h' => K (putS ρ o.dst .junk) β h'
  | .insert T x i v => putI P T (ev ρ x) (ev ρ i) (ev ρ v) h fun h' => K (putS ρ o.dst .junk) β h'
  | .typeAssert x _ T false => taI P T (ev ρ x) fun m => K (putS ρ o.dst (.v .map m)) β h
  | .range T x => rangeI P T (ev ρ x) h fun b h' => K (putS ρ o.dst (.it T b)) β h'
  | .next x false => nextI (ev ρ x) h fun ok h' => K (putS ρ o.dst (.nx ok)) β h'
  | .entry x => entI P (ev ρ x) h fun v => K (putS ρ o.dst v) β h
  | .call c => match c.callee with
    | .builtin .delete => delI P c.argTypes (c.args.toList.map (ev ρ)) h fun h' => K (putS ρ o.dst .junk) β h'
    | .builtin .append => appendI P c.argTypes (c.args.toList.map (ev ρ)) h fun s h' => K (putS ρ o.dst (.v .sl s)) β h'
    | .builtin .copy => copyI P c.argTypes (c.args.toList.map (ev ρ)) h fun n h' => K (putS ρ o.dst (.v (.int .i64) n)) β h'
    | .value (.func f) => callI P f o.type (c.args.toList.map (ev ρ)) h fun v h' => K (putS ρ o.dst v) β h'
    | .value (.tmp t) => fnI P (ρ t) o.type (c.args.toList.map (ev ρ)) h fun v h' => K (putS ρ o.dst v) β h'
    | .invoke r name => invI P name (ev ρ r) o.type (c.args.toList.map (ev ρ)) h fun v h' => K (putS ρ o.dst v) β h'
    | _ => False
  | _ => False

def opI (P : Program) (n : Nat) (F : List Nat) (hid : Bool) (o : Oper) (ρ : Slots) (β : Boxes) (h : Heap) (K : Slots → Boxes → Heap → Prop) : Prop :=
  bif dstOk n o.dst then
    bif isSil o.op then silM P o.op ρ β h (fun v => K (putS ρ o.dst v) β h) else effI P F hid o ρ β h K
  else False

abbrev OpPost (D0 : List Deferred) (h0 : Heap) (w0 : World) (n : Nat) (F : List Nat) (Z : Nat → Prop) (d : Option Nat) (κ : Nat → Nat) (a : Act) (w : World) (K : Slots → Boxes → Heap → Prop) (a' : Act) (w' : World) : Prop :=
  ∃ κ' ρ' β' h', St D0 h0 w0 n F Z κ' ρ' β' h' a' w' ∧ Fr d.toList F Z κ a w κ' a' w' ∧ K ρ' β' h'
abbrev NoExit : Exit → Act → World → Prop := fun _ _ _ => False

theorem wp_of_run {P : Program} {o : Oper} {a : Act} {w w' : World} {v : Value} {next : Act → World → Prop} (h : (execOp a.eval o).run P w = .ok (.value v) w') (k : next (a.put o.dst v) w') : o.wp P a w next NoExit := by
  unfold Oper.wp; rw [h]; exact k
theorem wp_of_skip {P : Program} {o : Oper} {a : Act} {w w' : World} {next : Act → World → Prop} (h : (execOp a.eval o).run P w = .ok .skip w') (k : next (a.put o.dst undef) w') : o.wp P a w next NoExit := by
  unfold Oper.wp; rw [h]; exact k

section
variable {P : Program} {D0 : List Deferred} {h0 : Heap} {w0 : World} {n : Nat} {F : List Nat} {Z : Nat → Prop} {κ : Nat → Nat} {ρ : Slots} {β : Boxes} {h : Heap} {a : Act} {w : World} {o : Oper}
  {K : Slots → Boxes → Heap → Prop} (s : St D0 h0 w0 n F Z κ ρ β h a w) (hd : dstOk n o.dst = true)
include s hd

theorem sil_wp (hm : silM P o.op ρ β h (fun v => K (putS ρ o.dst v) β h)) : o.wp P a w (OpPost D0 h0 w0 n F Z o.dst κ a w K) NoExit := by
  obtain ⟨tv, u, h1, h2, h3⟩ := silM_sound hm s.evOk
  obtain ⟨q1, q2⟩ := s.step (Inv.refl s.inv.sub) hd h2
  exact wp_of_run (h3 w s.sb) ⟨κ, _, β, h, q1, q2, h1⟩

theorem hide_wp {l : List Ent} {T : TypeId} (hm : hideI F o.dst l ρ β h K)
    (hr : (execOp a.eval o).run P w = .ok (.value (.pointer (some ⟨w.heap.size, 0, none⟩))) (w.alloc (.cells (entCells l).toArray T))) : o.wp P a w (OpPost D0 h0 w0 n F Z o.dst κ a w K) NoExit := by
  unfold hideI at hm
  split at hm
  · rename_i d e
    cases hf : F.contains d
    · rw [hf] at hm
      refine wp_of_run hr ?_
      rw [e]
      obtain ⟨κ', q1, q2⟩ := s.hide (d := d) (by rw [← e]; exact hd) hf l T
      exact ⟨κ', _, _, h, q1, q2, hm⟩
    · rw [hf] at hm; exact hm.elim
  · exact hm.elim

theorem new_wp {l : List Value} {T : TypeId} {K' : Addr → Heap → Prop} (hm : new h l K') {f : Addr → Value} {g : Addr → TV} (hg : ∀ x, Rl κ (g x) (f x)) (hK : ∀ x h', K' x h' → K (putS ρ o.dst (g x)) β h')
    (hr : (execOp a.eval o).run P w = .ok (.value (f ⟨w.heap.size, 0, none⟩)) (w.alloc (.cells l.toArray T))) : o.wp P a w (OpPost D0 h0 w0 n F Z o.dst κ a w K) NoExit := by
  have h1 := hm w.heap.size (none_of_size s.inv.sub)
  have q := new_inv s.inv.sub l T w.drawn
  obtain ⟨q1, q2⟩ := s.step q hd (hg ⟨w.heap.size, 0, none⟩)
  exact wp_of_run hr ⟨κ, _, β, _, q1, q2, hK _ _ h1⟩

theorem step_wp {u : Value} {tv : TV} {w' : World} {h' : Heap} (hr : (execOp a.eval o).run P w = .ok (.value u) w') (hrl : Rl κ tv u) (q : Inv h w h' w') (hK : K (putS ρ o.dst tv) β h') :
    o.wp P a w (OpPost D0 h0 w0 n F Z o.dst κ a w K) NoExit := by
  obtain ⟨q1, q2⟩ := s.step q hd hrl
  exact wp_of_run hr ⟨κ, _, β, _, q1, q2, hK⟩

theorem store_wp {T : TypeId} {A X : Operand} (ho : o.op = .store T A X) (hm : storeI P F T (ev ρ A) (ev ρ X) β h fun β' h' => K (putS ρ o.dst .junk) β' h') : o.wp P a w (OpPost D0 h0 w0 n F Z o.dst κ a w K) NoExit := by
  have he : execOp a.eval o = (do Instr.storeAt T (a.eval A) (a.eval X); pure .skip) := by simp only [execOp, ho]
  have hA := s.evOk.ev A
  have hX := s.evOk.ev X
  unfold storeI at hm
  split at hm
  · rename_i k hk
    split at hm
    · rename_i y hy
      have ex := tvVal_spec hy hX
      split at hm
      · rename_i p h1
        rw [h1] at hA
        unfold deref at hm
        split at hm
        · rename_i ad
          obtain ⟨hc, hm⟩ := hm
          obtain ⟨hone, hm⟩ := flatOr_spec hm
          obtain ⟨c1, cs, t, c2, c3, c4⟩ := canWrite_world s.inv.sub hc
          obtain ⟨w', r1, r2⟩ := run_storeVar (P := P) hk hone c1 c3 c4
          have q : Inv h w (write h ad (k.cells y)) w' := by rw [write_eq c2]; exact r2.inv (Inv.refl s.inv.sub) c2
          obtain ⟨q1, q2⟩ := s.step (v := .junk) (u := undef) q hd trivial
          refine wp_of_skip (w' := w') ?_ ⟨κ, _, β, _, q1, q2, hm⟩
          rw [he, ex, show a.eval A = .pointer (some ad) from hA]
          simp [Instr.storeAt, Instr.sureAddr, r1]
        · exact hm.elim
      · rename_i i off h1
        rw [h1] at hA
        cases hf : F.contains i
        · rw [hf] at hm
          simp only [cond_false] at hm
          split at hm
          · rename_i l hl
            split at hm
            · rename_i m hp
              obtain ⟨hone, hm⟩ := flatOr_spec hm
              obtain ⟨p1, p2⟩ := putBox_spec hp
              obtain ⟨⟨t, b1⟩, b2, b3⟩ := s.box i l hl
              rw [Kd.dis_cells] at p1
              have hsz : entSize (k.dis y) = k.size := by rw [← entCells_len, Kd.dis_cells, Kd.cells_len]
              obtain ⟨w', r1, r2⟩ := run_storeVar (P := P) (a := ⟨κ i, off, none⟩) hk hone rfl b1 (by rw [entCells_len]; dsimp only; omega)
              rw [← p1] at r2
              obtain ⟨q1, q2⟩ := s.boxed (v := .junk) (u := undef) hd hl hf r2 trivial
              refine wp_of_skip (w' := w') ?_ ⟨κ, _, _, _, q1, q2, hm⟩
              rw [he, ex, show a.eval A = .pointer (some ⟨κ i, off, none⟩) from hA]
              simp [Instr.storeAt, Instr.sureAddr, r1]
            · exact hm.elim
          · exact hm.elim
        · rw [hf] at hm; exact hm.elim
      · rename_i i off n' sz ix h1
        rw [h1] at hA
        obtain ⟨hix, hA⟩ := hA
        cases hf : F.contains i
        · rw [hf] at hm
          simp only [cond_false] at hm
          split at hm
          · rename_i l hl
            split at hm
            · rename_i f hg
              split at hm
              · rename_i m hp
                cases hsz : Nat.beq k.size sz
                · rw [hsz] at hm; exact hm.elim
                rw [hsz] at hm
                have hsz := Nat.eq_of_beq_eq_true hsz
                obtain ⟨hone, hm⟩ := flatOr_spec hm
                obtain ⟨p1, p2⟩ := putBox_spec hp
                obtain ⟨pre, post, g1, g2⟩ := getBox_spec hg
                obtain ⟨⟨t, b1⟩, b2, b3⟩ := s.box i l hl
                have hlt : ix.toNat < n' := by omega
                have hm1 : ix.toNat * k.size + k.size ≤ n' * k.size := by
                  have : (ix.toNat + 1) * k.size ≤ n' * k.size := Nat.mul_le_mul_right _ hlt
                  rw [Nat.succ_mul] at this; exact this
                have hlen : (entCells l).length = off + n' * k.size + post.length := by rw [g1]; simp [g2, Kd.cells_len, Kd.size]; omega
                obtain ⟨w', r1, r2⟩ := run_storeVar (P := P) (a := ⟨κ i, off + ix.toNat * sz, none⟩) hk hone rfl b1 (by dsimp only; rw [hlen, ← hsz]; omega)
                have ecells : splice (entCells l) (off + ix.toNat * sz) (k.cells y) = entCells m := by
                  rw [p1]
                  simp only [entCells, Ent.cells, List.append_nil]
                  rw [g1, ← hsz]
                  have ha : Kd.cells (.arr n' k) (aset (n := n') (a := k) f ix.toNat y) = splice (Kd.cells (.arr n' k) f) (ix.toNat * k.size) (k.cells y) := by
                    have hset : List.ofFn (aset (n := n') (a := k) f ix.toNat y) = (List.ofFn f).set ix.toNat y := by
                      apply List.ext_getElem
                      · simp
                      · intro j j1 j2
                        simp only [List.getElem_ofFn, List.getElem_set, aset]
                        by_cases c : ix.toNat = j
                        · simp [c]
                        · simp [c, Ne.symm c]
                    simp only [Kd.cells]
                    rw [hset, List.set_eq_take_append_cons_drop, if_pos (by simpa using hlt)]
                    rw [List.flatMap_append, List.flatMap_cons]
                    unfold splice
                    have t1 : ∀ (m : Nat) (q : List (Den k)), (q.flatMap k.cells).take (m * k.size) = (q.take m).flatMap k.cells := by
                      intro m
                      induction m with
                      | zero => intro q; simp
                      | succ m ihm =>
                        intro q
                        cases q with
                        | nil => simp
                        | cons z q =>
                          rw [List.flatMap_cons, List.take_succ_cons, List.flatMap_cons, List.take_append, Kd.cells_len, List.take_of_length_le (by rw [Kd.cells_len, Nat.succ_mul]; omega)]
                          rw [show (m + 1) * k.size - k.size = m * k.size from by rw [Nat.succ_mul]; omega, ihm]
                    have t2 : ∀ (m : Nat) (q : List (Den k)), (q.flatMap k.cells).drop (m * k.size) = (q.drop m).flatMap k.cells := by
                      intro m
                      induction m with
                      | zero => intro q; simp
                      | succ m ihm =>
                        intro q
                        cases q with
                        | nil => simp
                        | cons z q =>
                          rw [List.flatMap_cons, List.drop_succ_cons, List.drop_append, Kd.cells_len, List.drop_of_length_le (by rw [Kd.cells_len, Nat.succ_mul]; omega)]
                          rw [show (m + 1) * k.size - k.size = m * k.size from by rw [Nat.succ_mul]; omega, ihm]
                          rfl
                    rw [t1, show ix.toNat * k.size + (k.cells y).length = (ix.toNat + 1) * k.size from by rw [Kd.cells_len, Nat.succ_mul], t2]
                    simp
                  rw [ha]
                  unfold splice
                  have l1 : (Kd.cells (.arr n' k) f).length = n' * k.size := Kd.cells_len _ _
                  have l2 : (k.cells y).length = k.size := Kd.cells_len _ _
                  simp only [List.length_append, List.length_take, List.length_drop, l1, l2]
                  rw [List.append_assoc pre, List.take_append, List.take_append, List.drop_append, List.drop_append, List.take_append, List.drop_append, List.drop_append, List.take_of_length_le (l := pre) (by omega), List.drop_of_length_le (l := pre) (by omega),
                    List.take_of_length_le (l := pre) (by omega), List.drop_of_length_le (l := pre) (by omega)]
                  simp only [g2, l1]
                  rw [show off + ix.toNat * k.size - off = ix.toNat * k.size from by omega, show off - off = 0 from by omega,
                    show off + ix.toNat * k.size + k.size - off = ix.toNat * k.size + k.size from by omega,
                    show ix.toNat * k.size - n' * k.size = 0 from by omega, show ix.toNat * k.size + k.size - n' * k.size = 0 from by omega]
                  have e3 : min (ix.toNat * k.size) (n' * k.size) + k.size + (n' * k.size - (ix.toNat * k.size + k.size)) = n' * k.size := by omega
                  rw [e3, show off + n' * k.size - off = n' * k.size from by omega]
                  rw [List.drop_of_length_le (l := Kd.cells (.arr n' k) f) (i := n' * k.size) (by omega)]
                  simp
                rw [ecells] at r2
                obtain ⟨q1, q2⟩ := s.boxed (v := .junk) (u := undef) hd hl hf r2 trivial
                refine wp_of_skip (w' := w') ?_ ⟨κ, _, _, _, q1, q2, hm⟩
                rw [he, ex, hA]
                simp [Instr.storeAt, Instr.sureAddr, r1]
              · exact hm.elim
            · exact hm.elim
          · exact hm.elim
        · rw [hf] at hm; exact hm.elim
      · exact hm.elim
    · exact hm.elim
  · exact hm.elim
end

end Go.Mx
