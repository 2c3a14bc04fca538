/-
  DequeMicro: machines on a memory that holds anything: what they hold is in range; what a refused step comes to.
  DequeMicro: up to four machines in any turns: the walk.
  DequeMicro: the law.
-/
import Derived.Test.YtndhbkhhehleaaaMxUa
import Derived.Test.YtndhbkhhehleaaaMxV
set_option linter.unusedVariables false
set_option linter.unusedSimpArgs false
set_option linter.unusedSectionVars false
namespace Go.Mx

def I64 (x : Int) : Prop := w64 x = x
theorem I64.w (x : Int) : I64 (w64 x) := by
  show w64 (w64 x) = w64 x
  obtain ⟨k, e, a, b⟩ := w64_wrap x
  rw [w64_of a b]
theorem I64.of {x : Int} (a : -9223372036854775808 ≤ x) (b : x < 9223372036854775808) : I64 x := w64_of a b
theorem I64.z : I64 0 := I64.of (by decide) (by decide)
structure InO (o : DOp) : Prop where
  m : I64 o.most
  v : I64 o.v
  t : I64 o.t
  b : I64 o.b
  x : I64 o.x
  a2 : I64 o.a2
  c2 : I64 o.c2
theorem InO.zero : InO DOp.zero := ⟨.z, .z, .z, .z, .z, .z, .z⟩
theorem InO.after {o : DOp} (h : InO o) {g : Int} (hg : I64 g) : InO (o.after g) := by
  unfold DOp.after
  refine pif (P := InO) (fun k => ?_) fun k => pif (P := InO) (fun k2 => ?_) fun k2 => pif (P := InO) (fun k3 => ?_) fun k3 => ?_
  · unfold DOp.pushed
    repeat' refine pif (P := InO) (fun _ => ?_) fun _ => ?_
    all_goals first
      | exact h
      | exact ⟨h.m, h.v, h.t, h.b, h.x, h.a2, h.c2⟩
      | exact ⟨h.m, h.v, h.t, hg, h.x, h.a2, h.c2⟩
      | exact ⟨h.m, h.v, hg, h.b, h.x, h.a2, h.c2⟩
      | exact ⟨h.m, h.v, h.t, h.b, hg, h.a2, h.c2⟩
      | exact ⟨h.m, h.v, h.t, h.b, h.x, hg, h.c2⟩
      | exact ⟨h.m, h.v, h.t, h.b, h.x, h.a2, pif (P := I64) (fun _ => h.m) (fun _ => .w _)⟩
  · unfold DOp.popped
    repeat' refine pif (P := InO) (fun _ => ?_) fun _ => ?_
    all_goals first
      | exact h
      | exact ⟨h.m, h.v, h.t, h.b, h.x, h.a2, h.c2⟩
      | exact ⟨h.m, h.v, h.t, .w _, h.x, h.a2, h.c2⟩
      | exact ⟨h.m, h.v, hg, h.b, h.x, h.a2, h.c2⟩
      | exact ⟨h.m, h.v, h.t, h.b, hg, h.a2, h.c2⟩
  · unfold DOp.stolen
    repeat' refine pif (P := InO) (fun _ => ?_) fun _ => ?_
    all_goals first
      | exact h
      | exact ⟨h.m, h.v, h.t, h.b, h.x, h.a2, h.c2⟩
      | exact ⟨h.m, h.v, h.t, hg, h.x, h.a2, h.c2⟩
      | exact ⟨h.m, h.v, hg, h.b, h.x, h.a2, h.c2⟩
      | exact ⟨h.m, h.v, h.t, h.b, hg, h.a2, h.c2⟩
  · unfold DOp.looked
    repeat' refine pif (P := InO) (fun _ => ?_) fun _ => ?_
    all_goals first
      | exact ⟨h.m, h.v, h.t, h.b, h.x, h.a2, h.c2⟩
      | exact ⟨h.m, h.v, hg, h.b, h.x, h.a2, h.c2⟩
theorem InO.begin {kind pc base most v : Int} (hm : I64 most) (hv : I64 v) : InO (DOp.begin kind pc base most v) :=
  pif (P := InO) (fun _ => .zero) fun _ => pif (P := InO) (fun _ => .zero) fun _ => ⟨hm, hv, .z, .z, .z, .z, .z⟩
def Rq.Rg : Rq → Prop
  | .st _ v => I64 v
  | .cas _ _ y => I64 y
  | _ => True
def AS.Rg (s : AS) : Prop := ∀ x ∈ s.cs, I64 x
end Go.Mx

namespace Go.Mx

theorem RA.le {h0 b s S h} (R : RA h0 b s S h) : Go.Mx.le h0 h := by obtain ⟨c, l, _, o⟩ := R; exact o.le
theorem RA.live {h0 b s S h} (R : RA h0 b s S h) {x : Nat} (hx : S x) : h x ≠ none := by obtain ⟨c, l, rfl, o⟩ := R; exact o.live hx
theorem RA.fresh {h0 b s S h} (R : RA h0 b s S h) {x : Nat} (hx : S x) : h0 x = none := by obtain ⟨c, l, rfl, o⟩ := R; exact o.fresh hx
theorem RA.ext {h0 b s S h h'} (R : RA h0 b s S h) {T : Nat → Prop} (e : Ext T h h') (n : ∀ x, S x → ¬ T x) (f : ∀ x, T x → h0 x = none) : RA h0 b s S h' := by
  obtain ⟨c, l, rfl, o⟩ := R; exact ⟨c, l, rfl, o.ext e n f⟩
theorem no_blkM {x : Nat} : ¬ blkOf Sl.none x := fun h => by obtain ⟨a, e, _⟩ := h; cases e

def ElM (h : Heap) (F : Nat → Prop) (n : Nat) (e : Den KRo) (d : Den KOp) : Prop :=
  ∃ kind base most v s dead hs o, e = ropD kind base most v s dead ∧ d = DOp.den o ∧ RelO kind base most v hs dead o ∧ o.Ok ∧ InO o ∧ o.most ≤ 4096 ∧ Arr h ki s hs ∧ (∀ x, blkOf s x → h x ≠ none ∧ ¬ F x) ∧ hs.length ≤ n
def fpM (S S' : Nat → Prop) (rs : Sl) : Nat → Prop := fun x => S x ∨ S' x ∨ blkOf rs x
structure MicI (h0 : Heap) (bA bM : Nat) (rs : Sl) (n : Nat) (m m' : AS) (f : Fin 4 → Den KOp) (S S' : Nat → Prop) (es : List (Den KRo)) (h : Heap) : Prop where
  ra : RA h0 bA m S h
  rm : RMem h0 bM m' S' h
  rf : New h0 h KRo rs es
  n4 : es.length = 4
  d1 : ∀ x, S x → ¬ S' x
  d2 : ∀ x, blkOf rs x → ¬ S x
  d3 : ∀ x, blkOf rs x → ¬ S' x
  fit : m.Fit n
  rg : m.Rg
  el : ∀ i (hi : i < 4) e, es[i]? = some e → ElM h (fpM S S' rs) n e (f ⟨i, hi⟩)
section
variable {h0 : Heap} {bA bM : Nat} {rs : Sl} {n : Nat} {m m' : AS} {f : Fin 4 → Den KOp} {S S' : Nat → Prop} {es : List (Den KRo)} {h : Heap} (o : MicI h0 bA bM rs n m m' f S S' es h)
include o
end

abbrev KMv : Kd := .pair ki (.pair ki (.pair ki .nil))
def WhoM (c : Option Addr → Int → Heap → (Unit → Heap → Prop) → Prop) : Prop := ∀ {h0 : Heap} {b : Nat} {h : Heap} {s : AS} {S : Nat → Prop} {w : Int} {Q : Unit → Heap → Prop}, RA h0 b s S h → (∀ h', RA h0 b { s with who := w } S h' → Step S S h h' → Q () h') → c (some (ptr b)) w h Q
def StepM (T : TypeId) (c : Value → Den KOp → Heap → (Den KOp → Heap → Prop) → Prop) : Prop := ∀ {h0 : Heap} {b : Nat} {h : Heap} {s : AS} {S : Nat → Prop} {x : DOp} {Q : Den KOp → Heap → Prop}, RA h0 b s S h → s.lg.length ≤ 1000000000 → (s.cs.length : Int) ≤ s.sz → s.sz ≤ 1048576 → x.Ok →
    (∀ S' h', RA h0 b (stepD arenaI s x).1 S' h' → Step S S' h h' → Q (stepD arenaI s x).2.den h') → c (.iface T (.pointer (some (ptr b)))) x.den h Q
def AnswM (c : Den KOp → Heap → (Den KP2 → Heap → Prop) → Prop) : Prop := ∀ {o : DOp} {h : Heap} {Q : Den KP2 → Heap → Prop}, Q (o.answer.1, (o.answer.2, ())) h → c o.den h Q
def OutM (k : Kd) (xs : AS → List (Den k)) (c : Option Addr → Heap → (Sl → Heap → Prop) → Prop) : Prop := ∀ {h0 : Heap} {b : Nat} {h : Heap} {s : AS} {S : Nat → Prop} {n : Nat} {Q : Sl → Heap → Prop}, RA h0 b s S h → s.Fit n → n ≤ 1000000000 → (∀ t h', New h h' k t (xs s) → Q t h') → c (some (ptr b)) h Q
section
variable {T : TypeId} {c1 : Int → Int → Heap → (Int → Heap → Prop) → Prop} {c3 : Den KMv → Int → Int → Heap → ((Den KOp × (Den KRo × Unit)) → Heap → Prop) → Prop} {c4 : Option Addr → Int → Heap → (Unit → Heap → Prop) → Prop} {c5 : Value → Den KOp → Heap → (Den KOp → Heap → Prop) → Prop}
  {c6 : Option Addr → Den KRo → Heap → (Den KRo → Heap → Prop) → Prop} {c7 : Den KRo → Heap → (Wn → Heap → Prop) → Prop} {c8 : Int → Heap → ((Option Addr × (Int × Unit)) → Heap → Prop) → Prop} {c9 : Den KOp → Heap → (Den KP2 → Heap → Prop) → Prop} {c10 : Den KRo → Heap → (Den KP2 → Heap → Prop) → Prop}
  {Q : Bool → Heap → Prop} {h0 : Heap} {bA bM : Nat} {bR : Nat} {n : Nat} {m : AS} {f : Fin 4 → Den KOp} {S S' : Nat → Prop} {es : List (Den KRo)} {h : Heap}
end
end Go.Mx

namespace Go.Mx

section
variable {c1 : Int → Int → Heap → (Int → Heap → Prop) → Prop} {c2 : Int → Sl → Heap → ((Option Addr × (Bool × Unit)) → Heap → Prop) → Prop} {c3 : Den KMv → Int → Int → Heap → ((Den KOp × (Den KRo × Unit)) → Heap → Prop) → Prop} {c4 : Option Addr → Int → Heap → (Unit → Heap → Prop) → Prop} {c5 : Value → Den KOp → Heap → (Den KOp → Heap → Prop) → Prop}
  {c6 : Option Addr → Den KRo → Heap → (Den KRo → Heap → Prop) → Prop} {c7 : Den KRo → Heap → (Wn → Heap → Prop) → Prop} {c8 : Int → Heap → ((Option Addr × (Int × Unit)) → Heap → Prop) → Prop} {c9 : Den KOp → Heap → (Den KP2 → Heap → Prop) → Prop} {c10 : Den KRo → Heap → (Den KP2 → Heap → Prop) → Prop}
  {d1 d3 : Option Addr → Heap → (Sl → Heap → Prop) → Prop} {d2 d4 : Sl → Sl → Heap → (Bool → Heap → Prop) → Prop}
end
theorem FieldsOf.three {r : TypeId → (k : Kd) → Den k → Prop} {fs : List Field} {a b c : Kd} {x : Den (.pair a (.pair b (.pair c .nil)))} (h : FieldsOf r fs (.pair a (.pair b (.pair c .nil))) x) (hl : fs.length = 3) : ∃ t, r t c x.2.2.1 := by
  match fs, hl, h with
  | [_, _, f], _, h => exact ⟨f.type, h.2.2.1⟩
theorem FieldsOf.first {r : TypeId → (k : Kd) → Den k → Prop} {fs : List Field} {a b : Kd} {x : Den (.pair a (.pair b .nil))} (h : FieldsOf r fs (.pair a (.pair b .nil)) x) (hl : fs.length = 2) : ∃ t, r t a x.1 := by
  match fs, hl, h with
  | [f, _], _, h => exact ⟨f.type, h.1⟩
end Go.Mx
