/-
  The deque's step machines: what their calls come to, over any memory.
-/
import Derived.Test.YtndhbkhhehleaaaMxQa
import Derived.Test.YtndhbkhhehleaaaMd
set_option linter.unusedVariables false
set_option linter.unusedSimpArgs false
namespace Go.Mx

theorem dcase {p : Prop} [Decidable p] {A B : Prop} (h1 : p → A) (h2 : ¬ p → B) : (decide p = true → A) ∧ (decide p = false → B) := ⟨fun e => h1 (of_decide_eq_true e), fun e => h2 (of_decide_eq_false e)⟩
abbrev OverC := Den KOp → Int → Int → Heap → (Den KOp → Heap → Prop) → Prop
theorem dover_spec {o : DOp} {c v : Int} {h : Heap} {Q : Den KOp → Heap → Prop} (hQ : Q (o.over c v).den h) : deque_Op_over.M o.den c v h Q := hQ

theorem pushed_spec {o : DOp} {g : Int} {h : Heap} {c1 : OverC} (i1 : ∀ {o : DOp} {c v h Q}, deque_Op_over.M o.den c v h Q → c1 o.den c v h Q) {Q : Den KOp → Heap → Prop} (hQ : Q (o.pushed g).den h) : deque_Op_pushed.M c1 o.den g h Q := by
  unfold DOp.pushed at hQ
  refine dcase (fun e => ?_) (fun e => ?_)
  · have e : o.pc = 1 := e
    rw [if_pos e] at hQ
    exact hQ
  · have e : ¬ o.pc = 1 := e
    rw [if_neg e] at hQ
    refine dcase (fun e => ?_) (fun e => ?_)
    · have e : o.pc = 2 := e
      rw [if_pos e] at hQ
      exact hQ
    · have e : ¬ o.pc = 2 := e
      rw [if_neg e] at hQ
      refine dcase (fun e => ?_) (fun e => ?_)
      · have e : o.pc = 3 := e
        rw [if_pos e] at hQ
        exact hQ
      · have e : ¬ o.pc = 3 := e
        rw [if_neg e] at hQ
        refine dcase (fun e => ?_) (fun e => ?_)
        · have e : o.pc = 4 := e
          rw [if_pos e] at hQ
          refine dcase (fun e => ?_) (fun e => ?_)
          · have e : g < 1 := e
            rw [if_pos e] at hQ
            exact i1 (o := { o with c := g, pc := 10 }) (dover_spec hQ)
          · have e : ¬ g < 1 := e
            rw [if_neg e] at hQ
            refine dcase (fun e => ?_) (fun e => ?_)
            · have e : w64 (o.b - o.t) < g := e
              rw [if_pos e] at hQ
              exact hQ
            · have e : ¬ w64 (o.b - o.t) < g := e
              rw [if_neg e] at hQ
              refine dcase (fun e => ?_) (fun e => ?_)
              · have e : o.most ≤ g := e
                rw [if_pos e] at hQ
                exact i1 (o := { o with c := g, pc := 10 }) (dover_spec hQ)
              · have e : ¬ o.most ≤ g := e
                rw [if_neg e] at hQ
                exact hQ
        · have e : ¬ o.pc = 4 := e
          rw [if_neg e] at hQ
          refine dcase (fun e => ?_) (fun e => ?_)
          · have e : o.pc = 5 := e
            rw [if_pos e] at hQ
            exact hQ
          · have e : ¬ o.pc = 5 := e
            rw [if_neg e] at hQ
            refine dcase (fun e => ?_) (fun e => ?_)
            · have e : o.pc = 6 := e
              rw [if_pos e] at hQ
              exact hQ
            · have e : ¬ o.pc = 6 := e
              rw [if_neg e] at hQ
              refine dcase (fun e => ?_) (fun e => ?_)
              · have e : o.pc = 7 := e
                rw [if_pos e] at hQ
                exact hQ
              · have e : ¬ o.pc = 7 := e
                rw [if_neg e] at hQ
                refine dcase (fun e => ?_) (fun e => ?_)
                · have e : o.pc = 8 := e
                  rw [if_pos e] at hQ
                  refine dcase (fun e => ?_) (fun e => ?_)
                  · have e : w64 (o.i + 1) = o.b := e
                    rw [if_pos e] at hQ
                    exact hQ
                  · have e : ¬ w64 (o.i + 1) = o.b := e
                    rw [if_neg e] at hQ
                    exact hQ
                · have e : ¬ o.pc = 8 := e
                  rw [if_neg e] at hQ
                  refine dcase (fun e => ?_) (fun e => ?_)
                  · have e : o.pc = 9 := e
                    rw [if_pos e] at hQ
                    exact hQ
                  · have e : ¬ o.pc = 9 := e
                    rw [if_neg e] at hQ
                    refine dcase (fun e => ?_) (fun e => ?_)
                    · have e : o.pc = 10 := e
                      rw [if_pos e] at hQ
                      exact hQ
                    · have e : ¬ o.pc = 10 := e
                      rw [if_neg e] at hQ
                      refine dcase (fun e => ?_) (fun e => ?_)
                      · have e : o.pc = 11 := e
                        rw [if_pos e] at hQ
                        exact i1 (o := o) (dover_spec hQ)
                      · have e : ¬ o.pc = 11 := e
                        rw [if_neg e] at hQ
                        exact hQ
theorem popped_spec {o : DOp} {g : Int} {h : Heap} {c1 : OverC} (i1 : ∀ {o : DOp} {c v h Q}, deque_Op_over.M o.den c v h Q → c1 o.den c v h Q) {Q : Den KOp → Heap → Prop} (hQ : Q (o.popped g).den h) : deque_Op_popped.M c1 o.den g h Q := by
  unfold DOp.popped at hQ
  refine dcase (fun e => ?_) (fun e => ?_)
  · have e : o.pc = 1 := e
    rw [if_pos e] at hQ
    exact hQ
  · have e : ¬ o.pc = 1 := e
    rw [if_neg e] at hQ
    refine dcase (fun e => ?_) (fun e => ?_)
    · have e : o.pc = 3 := e
      rw [if_pos e] at hQ
      exact hQ
    · have e : ¬ o.pc = 3 := e
      rw [if_neg e] at hQ
      refine dcase (fun e => ?_) (fun e => ?_)
      · have e : o.pc = 11 := e
        rw [if_pos e] at hQ
        refine dcase (fun e => ?_) (fun e => ?_)
        · have e : o.i = 0 := e
          rw [if_pos e] at hQ
          exact hQ
        · have e : ¬ o.i = 0 := e
          rw [if_neg e] at hQ
          refine ⟨fun w => ?_, fun w => ?_⟩
          · have w : o.won = true := w
            rw [if_pos w] at hQ; exact i1 (o := o) (dover_spec hQ)
          · rw [if_neg (by rw [show o.won = false from w]; decide)] at hQ; exact i1 (o := o) (dover_spec hQ)
      · have e : ¬ o.pc = 11 := e
        rw [if_neg e] at hQ
        refine dcase (fun e => ?_) (fun e => ?_)
        · have e : o.pc = 2 := e
          rw [if_pos e] at hQ
          refine dcase (fun e => ?_) (fun e => ?_)
          · have e : o.b < g := e
            rw [if_pos e] at hQ
            exact hQ
          · have e : ¬ o.b < g := e
            rw [if_neg e] at hQ
            exact hQ
        · have e : ¬ o.pc = 2 := e
          rw [if_neg e] at hQ
          refine dcase (fun e => ?_) (fun e => ?_)
          · have e : o.pc = 4 := e
            rw [if_pos e] at hQ
            refine dcase (fun e => ?_) (fun e => ?_)
            · have e : g < 1 := e
              rw [if_pos e] at hQ
              exact i1 (o := { o with c := g, pc := 12 }) (dover_spec hQ)
            · have e : ¬ g < 1 := e
              rw [if_neg e] at hQ
              exact hQ
          · have e : ¬ o.pc = 4 := e
            rw [if_neg e] at hQ
            refine dcase (fun e => ?_) (fun e => ?_)
            · have e : o.pc = 12 := e
              rw [if_pos e] at hQ
              refine dcase (fun e => ?_) (fun e => ?_)
              · have e : o.t < o.b := e
                rw [if_pos e] at hQ
                exact i1 (o := { o with x := g, pc := 13 }) (dover_spec hQ)
              · have e : ¬ o.t < o.b := e
                rw [if_neg e] at hQ
                exact hQ
            · have e : ¬ o.pc = 12 := e
              rw [if_neg e] at hQ
              refine dcase (fun e => ?_) (fun e => ?_)
              · have e : o.pc = 13 := e
                rw [if_pos e] at hQ
                exact hQ
              · have e : ¬ o.pc = 13 := e
                rw [if_neg e] at hQ
                exact hQ
theorem stolen_spec {o : DOp} {g : Int} {h : Heap} {c1 : OverC} (i1 : ∀ {o : DOp} {c v h Q}, deque_Op_over.M o.den c v h Q → c1 o.den c v h Q) {Q : Den KOp → Heap → Prop} (hQ : Q (o.stolen g).den h) : deque_Op_stolen.M c1 o.den g h Q := by
  unfold DOp.stolen at hQ
  refine dcase (fun e => ?_) (fun e => ?_)
  · have e : o.pc = 2 := e
    rw [if_pos e] at hQ
    exact hQ
  · have e : ¬ o.pc = 2 := e
    rw [if_neg e] at hQ
    refine dcase (fun e => ?_) (fun e => ?_)
    · have e : o.pc = 1 := e
      rw [if_pos e] at hQ
      refine dcase (fun e => ?_) (fun e => ?_)
      · have e : g ≤ o.t := e
        rw [if_pos e] at hQ
        exact i1 (o := { o with b := g, pc := 3 }) (dover_spec hQ)
      · have e : ¬ g ≤ o.t := e
        rw [if_neg e] at hQ
        exact hQ
    · have e : ¬ o.pc = 1 := e
      rw [if_neg e] at hQ
      refine dcase (fun e => ?_) (fun e => ?_)
      · have e : o.pc = 3 := e
        rw [if_pos e] at hQ
        exact hQ
      · have e : ¬ o.pc = 3 := e
        rw [if_neg e] at hQ
        refine dcase (fun e => ?_) (fun e => ?_)
        · have e : o.pc = 4 := e
          rw [if_pos e] at hQ
          refine dcase (fun e => ?_) (fun e => ?_)
          · have e : g < 1 := e
            rw [if_pos e] at hQ
            exact i1 (o := { o with c := g, pc := 12 }) (dover_spec hQ)
          · have e : ¬ g < 1 := e
            rw [if_neg e] at hQ
            exact hQ
        · have e : ¬ o.pc = 4 := e
          rw [if_neg e] at hQ
          refine dcase (fun e => ?_) (fun e => ?_)
          · have e : o.pc = 12 := e
            rw [if_pos e] at hQ
            exact hQ
          · have e : ¬ o.pc = 12 := e
            rw [if_neg e] at hQ
            refine dcase (fun e => ?_) (fun e => ?_)
            · have e : o.pc = 13 := e
              rw [if_pos e] at hQ
              refine dcase (fun e => ?_) (fun e => ?_)
              · have e : g = 1 := e
                rw [if_pos e] at hQ
                exact i1 (o := o) (dover_spec hQ)
              · have e : ¬ g = 1 := e
                rw [if_neg e] at hQ
                exact i1 (o := o) (dover_spec hQ)
            · have e : ¬ o.pc = 13 := e
              rw [if_neg e] at hQ
              exact hQ
theorem looked_spec {o : DOp} {g : Int} {h : Heap} {c1 : OverC} (i1 : ∀ {o : DOp} {c v h Q}, deque_Op_over.M o.den c v h Q → c1 o.den c v h Q) {Q : Den KOp → Heap → Prop} (hQ : Q (o.looked g).den h) : deque_Op_looked.M c1 o.den g h Q := by
  unfold DOp.looked at hQ
  refine dcase (fun e => ?_) (fun e => ?_)
  · have e : o.pc = 2 := e
    rw [if_pos e] at hQ
    exact hQ
  · have e : ¬ o.pc = 2 := e
    rw [if_neg e] at hQ
    refine dcase (fun e => ?_) (fun e => ?_)
    · have e : o.t < g := e
      rw [if_pos e] at hQ
      exact i1 (o := o) (dover_spec hQ)
    · have e : ¬ o.t < g := e
      rw [if_neg e] at hQ
      exact i1 (o := o) (dover_spec hQ)
theorem place_spec {a c i : Int} {h : Heap} (hc : 1 ≤ c) {Q : Int → Heap → Prop} (hQ : Q (placeD a c i) h) : deque_place.M a c i h Q := by
  unfold placeD at hQ
  refine ⟨by omega, dcase (fun e => ?_) (fun e => ?_)⟩
  · rw [if_pos e] at hQ; exact hQ
  · rw [if_neg e] at hQ; exact hQ
theorem next_spec' {o : DOp} {h : Heap} {Q : Int → Heap → Prop} (hQ : Q o.next h) : deque_Op_next.M o.den h Q := by
  unfold DOp.next at hQ
  refine dcase (fun e => ?_) (fun e => ?_)
  · have e : o.kind = 1 := e
    rw [if_pos e] at hQ
    exact hQ
  · have e : ¬ o.kind = 1 := e
    rw [if_neg e] at hQ
    refine dcase (fun e => ?_) (fun e => ?_)
    · have e : o.i = 0 := e
      rw [if_pos e] at hQ
      exact hQ
    · have e : ¬ o.i = 0 := e
      rw [if_neg e] at hQ
      refine dcase (fun e => ?_) (fun e => ?_)
      · have e : o.b < o.t := e
        rw [if_pos e] at hQ
        exact hQ
      · have e : ¬ o.b < o.t := e
        rw [if_neg e] at hQ
        exact hQ

structure MemT {σ : Type} (I : MemF σ) (R : σ → (Nat → Prop) → Heap → Prop) (v : Value) (cL : Value → Int → Heap → (Den KP2 → Heap → Prop) → Prop) (cR : Value → Int → Heap → (Den KP2 → Heap → Prop) → Prop) (cS : Value → Int → Int → Heap → (Int → Heap → Prop) → Prop)
    (cC : Value → Int → Int → Int → Heap → ((Bool × (Int × Unit)) → Heap → Prop) → Prop) (cN : Value → Prop) (s : σ) (S : (Nat → Prop)) (h : Heap) : Prop where
  iface : isI v
  some' : isNilI v = false
  nil : ∀ n, n = "Load" ∨ n = "Store" → cN (Value.func (.method n) (List.toArray [Kd.val .iface v]) (List.toArray []))
  load : ∀ {a : Int} {Q : Den KP2 → Heap → Prop}, (∀ g e S' h', ((I s (.ld a)).1 = some g ∧ e = 0 ∨ (I s (.ld a)).1 = none ∧ e ≠ 0) → R (I s (.ld a)).2 S' h' → Step S S' h h' → Q (g, (e, ())) h') → cL v a h Q
  store : ∀ {a x : Int} {Q : Int → Heap → Prop}, (∀ e S' h', ((I s (.st a x)).1 = some 0 ∧ e = 0 ∨ (I s (.st a x)).1 = none ∧ e ≠ 0) → R (I s (.st a x)).2 S' h' → Step S S' h h' → Q e h') → cS v a x h Q
  cas : ∀ {a x y : Int} {Q : (Bool × (Int × Unit)) → Heap → Prop}, (∀ (g : Bool) e S' h', ((I s (.cas a x y)).1 = some (if g = true then 1 else 0) ∧ e = 0 ∨ (I s (.cas a x y)).1 = none ∧ e ≠ 0) → R (I s (.cas a x y)).2 S' h' → Step S S' h h' → Q (g, (e, ())) h') → cC v a x y h Q
  reserve : ∀ {n : Int} {Q : Den KP2 → Heap → Prop}, (∀ g e S' h', ((I s (.rs n)).1 = some g ∧ e = 0 ∨ (I s (.rs n)).1 = none ∧ e ≠ 0) → R (I s (.rs n)).2 S' h' → Step S S' h h' → Q (g, (e, ())) h') → cR v n h Q

section
variable {σ : Type} {I : MemF σ} {R : σ → (Nat → Prop) → Heap → Prop} {v : Value} {cL : Value → Int → Heap → (Den KP2 → Heap → Prop) → Prop} {cR : Value → Int → Heap → (Den KP2 → Heap → Prop) → Prop} {cS : Value → Int → Int → Heap → (Int → Heap → Prop) → Prop}
    {cC : Value → Int → Int → Int → Heap → ((Bool × (Int × Unit)) → Heap → Prop) → Prop} {cN : Value → Prop} {s : σ} {S : Nat → Prop} {h : Heap} (m : MemT I R v cL cR cS cC cN s S h)
include m
theorem access_spec {o : DOp} (ok : o.Ok) {cP : Int → Int → Int → Heap → (Int → Heap → Prop) → Prop} {cX : Den KOp → Heap → (Int → Heap → Prop) → Prop} (i1 : ∀ {a c i h Q}, deque_place.M a c i h Q → cP a c i h Q) (i2 : ∀ {o : DOp} {h Q}, deque_Op_next.M o.den h Q → cX o.den h Q)
    {Q : Den KP2 → Heap → Prop} (hQ : ∀ g e S' h', ((I s o.req).1 = some g ∧ e = 0 ∨ (I s o.req).1 = none ∧ e ≠ 0) → R (I s o.req).2 S' h' → Step S S' h h' → Q (g, (e, ())) h') : deque_Op_access.M cL cR cS cP cX cC cN o.den v h Q := by
  obtain ⟨k1, k2, k3⟩ := ok
  have st : ∀ {a x : Int}, o.req = .st a x → ∀ e S' h', ((I s (.st a x)).1 = some 0 ∧ e = 0 ∨ (I s (.st a x)).1 = none ∧ e ≠ 0) → R (I s (.st a x)).2 S' h' → Step S S' h h' → Q (0, (e, ())) h' := fun {a x} r e S' h' hr hR hs => hQ 0 e S' h' (by rw [r]; exact hr) (by rw [r]; exact hR) hs
  have ld : ∀ {a : Int}, o.req = .ld a → ∀ g e S' h', ((I s (.ld a)).1 = some g ∧ e = 0 ∨ (I s (.ld a)).1 = none ∧ e ≠ 0) → R (I s (.ld a)).2 S' h' → Step S S' h h' → Q (g, (e, ())) h' := fun {a} r g e S' h' hr hR hs => hQ g e S' h' (by rw [r]; exact hr) (by rw [r]; exact hR) hs
  refine dcase (p := o.pc = 1) (fun e => ?_) (fun e1 => dcase (p := o.pc = 2) (fun e => ?_) (fun e2 => dcase (p := o.pc = 3) (fun e => ?_) (fun e3 => dcase (p := o.pc = 4) (fun e => ?_) (fun e4 => dcase (p := o.pc = 5) (fun e => ?_) (fun e5 => dcase (p := o.pc = 6) (fun e => ?_) (fun e6 => dcase (p := o.pc = 7) (fun e => ?_) (fun e7 => dcase (p := o.pc = 8) (fun e => ?_) (fun e8 => dcase (p := o.pc = 9) (fun e => ?_) (fun e9 => dcase (p := o.pc = 10) (fun e => ?_) (fun e10 => dcase (p := o.pc = 11) (fun e => ?_) (fun e11 => dcase (p := o.pc = 12) (fun e => ?_) (fun e12 => ?_))))))))))))
  · exact m.load (ld (by unfold DOp.req; rw [if_pos e]; rfl))
  · exact m.load (ld (by unfold DOp.req; rw [if_neg e1, if_pos e]; rfl))
  · exact m.load (ld (by unfold DOp.req; rw [if_neg e1, if_neg e2, if_pos e]; rfl))
  · exact m.load (ld (by unfold DOp.req; rw [if_neg e1, if_neg e2, if_neg e3, if_pos e]; rfl))
  · have r : o.req = .rs (w64 (1 + o.c2)) := by unfold DOp.req; rw [if_neg e1, if_neg e2, if_neg e3, if_neg e4, if_pos e]
    exact m.reserve fun g e S' h' hr hR hs => hQ g e S' h' (by rw [r]; exact hr) (by rw [r]; exact hR) hs
  · exact m.store (st (by unfold DOp.req; rw [if_neg e1, if_neg e2, if_neg e3, if_neg e4, if_neg e5, if_pos e]; rfl))
  · have hc := k1 (.inl e)
    exact ⟨m.nil _ (.inl rfl), i1 (place_spec hc (m.load (ld (by unfold DOp.req; rw [if_neg e1, if_neg e2, if_neg e3, if_neg e4, if_neg e5, if_neg e6, if_pos e]; rfl))))⟩
  · have hc := k2 (by have e : o.pc = 8 := e; omega)
    exact ⟨m.nil _ (.inr rfl), i1 (place_spec hc.2.1 (m.store (st (by unfold DOp.req; rw [if_neg e1, if_neg e2, if_neg e3, if_neg e4, if_neg e5, if_neg e6, if_neg e7, if_pos e]; rfl))))⟩
  · exact m.store (st (by unfold DOp.req; rw [if_neg e1, if_neg e2, if_neg e3, if_neg e4, if_neg e5, if_neg e6, if_neg e7, if_neg e8, if_pos e]; rfl))
  · have hc := k1 (.inr (.inl e))
    exact ⟨m.nil _ (.inr rfl), i1 (place_spec hc (m.store (st (by unfold DOp.req; rw [if_neg e1, if_neg e2, if_neg e3, if_neg e4, if_neg e5, if_neg e6, if_neg e7, if_neg e8, if_neg e9, if_pos e]; rfl))))⟩
  · exact ⟨m.nil _ (.inr rfl), i2 (next_spec' (m.store (st (by unfold DOp.req; rw [if_neg e1, if_neg e2, if_neg e3, if_neg e4, if_neg e5, if_neg e6, if_neg e7, if_neg e8, if_neg e9, if_neg e10, if_pos e]; rfl))))⟩
  · have hc := k1 (.inr (.inr e))
    refine dcase (p := o.kind = 2) (fun k => ?_) (fun k => ?_)
    · exact ⟨m.nil _ (.inl rfl), i1 (place_spec hc (m.load (ld (by unfold DOp.req; rw [if_neg e1, if_neg e2, if_neg e3, if_neg e4, if_neg e5, if_neg e6, if_neg e7, if_neg e8, if_neg e9, if_neg e10, if_neg e11, if_pos e, if_pos k]; rfl))))⟩
    · exact ⟨m.nil _ (.inl rfl), i1 (place_spec hc (m.load (ld (by unfold DOp.req; rw [if_neg e1, if_neg e2, if_neg e3, if_neg e4, if_neg e5, if_neg e6, if_neg e7, if_neg e8, if_neg e9, if_neg e10, if_neg e11, if_pos e, if_neg k]; rfl))))⟩
  · have r : o.req = .cas (w64 (o.base + 0)) o.t (w64 (o.t + 1)) := by unfold DOp.req; rw [if_neg e1, if_neg e2, if_neg e3, if_neg e4, if_neg e5, if_neg e6, if_neg e7, if_neg e8, if_neg e9, if_neg e10, if_neg e11, if_neg e12]
    refine m.cas fun g e S' h' hr hR hs => ⟨fun w => ?_, fun w => ?_⟩
    · have w : g = true := w
      refine hQ 1 e S' h' ?_ (by rw [r]; exact hR) hs
      rw [r]; rw [w] at hr; exact hr
    · have w : g = false := w
      refine hQ 0 e S' h' ?_ (by rw [r]; exact hR) hs
      rw [r]; rw [w] at hr; exact hr

theorem dstep_spec {o : DOp} (ok : o.Ok) {c1 : OverC} {c2 : Den KOp → Value → Heap → (Den KP2 → Heap → Prop) → Prop} {c3 c4 c5 c6 : Den KOp → Int → Heap → (Den KOp → Heap → Prop) → Prop} {cP : Int → Int → Int → Heap → (Int → Heap → Prop) → Prop} {cX : Den KOp → Heap → (Int → Heap → Prop) → Prop}
    (i1 : ∀ {o : DOp} {c v h Q}, deque_Op_over.M o.den c v h Q → c1 o.den c v h Q) (i2 : ∀ {Q}, deque_Op_access.M cL cR cS cP cX cC cN o.den v h Q → c2 o.den v h Q) (i3 : ∀ {o : DOp} {g h Q}, deque_Op_pushed.M c1 o.den g h Q → c3 o.den g h Q) (i4 : ∀ {o : DOp} {g h Q}, deque_Op_popped.M c1 o.den g h Q → c4 o.den g h Q)
    (i5 : ∀ {o : DOp} {g h Q}, deque_Op_stolen.M c1 o.den g h Q → c5 o.den g h Q) (i6 : ∀ {o : DOp} {g h Q}, deque_Op_looked.M c1 o.den g h Q → c6 o.den g h Q) (j1 : ∀ {a c i h Q}, deque_place.M a c i h Q → cP a c i h Q) (j2 : ∀ {o : DOp} {h Q}, deque_Op_next.M o.den h Q → cX o.den h Q)
    {Q : Den KOp → Heap → Prop} (hR : R s S h) (hQ : ∀ S' h', R (stepD I s o).1 S' h' → Step S S' h h' → Q (stepD I s o).2.den h') : deque_Step.M c1 c2 c3 c4 c5 c6 v o.den h Q := by
  have hz := o.eqK_zero
  have main : o ≠ DOp.zero → o.pc ≠ 0 → deque_Step.j1 c1 c2 c3 c4 c5 c6 v o.den Q ((0, (0, (0, (0, (0, (0, (0, (0, (0, (0, (0, (0, (0, (false, (0, (0, ())))))))))))))))), ()) h := fun z p => by
    unfold stepD at hQ
    rw [if_neg z, if_neg p] at hQ
    refine ⟨m.iface, fun e => (by rw [m.some'] at e; cases e), fun _ => i2 (access_spec m ok j1 j2 fun g e S' h' hr hR' hs => ?_)⟩
    refine dcase (fun d => ?_) (fun d => ?_)
    · have d : e ≠ 0 := d
      have hr := (hr.resolve_left fun q => d q.2).1
      rw [hr] at hQ
      exact i1 (o := o) (dover_spec (hQ S' h' hR' hs))
    · have d : e = 0 := Decidable.not_not.1 d
      have hr := (hr.resolve_right fun q => q.2 d).1
      rw [hr] at hQ
      have hQ := hQ S' h' hR' hs
      unfold DOp.after at hQ
      refine dcase (fun k => ?_) (fun k => dcase (fun k2 => ?_) (fun k2 => dcase (fun k3 => ?_) (fun k3 => ?_)))
      · have k : o.kind = 1 := k
        dsimp only at hQ
        rw [if_pos k] at hQ
        exact i3 (o := o) (pushed_spec i1 hQ)
      · have k : ¬ o.kind = 1 := k
        have k2 : o.kind = 2 := k2
        dsimp only at hQ
        rw [if_neg k, if_pos k2] at hQ
        exact i4 (o := o) (popped_spec i1 hQ)
      · have k : ¬ o.kind = 1 := k
        have k2 : ¬ o.kind = 2 := k2
        have k3 : o.kind = 3 := k3
        dsimp only at hQ
        rw [if_neg k, if_neg k2, if_pos k3] at hQ
        exact i5 (o := o) (stolen_spec i1 hQ)
      · have k : ¬ o.kind = 1 := k
        have k2 : ¬ o.kind = 2 := k2
        have k3 : ¬ o.kind = 3 := k3
        dsimp only at hQ
        rw [if_neg k, if_neg k2, if_neg k3] at hQ
        exact i6 (o := o) (looked_spec i1 hQ)
  have idle : (o = DOp.zero ∨ o.pc = 0) → Q o.den h := fun z => by
    have : stepD I s o = (s, o) := by
      unfold stepD
      by_cases q : o = DOp.zero
      · rw [if_pos q]
      · rw [if_neg q, if_pos (z.resolve_left q)]
    rw [this] at hQ
    exact hQ S h hR (.refl _ _)
  refine ⟨fun e => ⟨fun _ => ?_, fun q => (by cases q)⟩, fun e => ?_⟩
  · have e : eqK KOp o.den DOp.zero.den = true := e
    rw [hz] at e
    exact idle (.inl (of_decide_eq_true e))
  · have e : eqK KOp o.den DOp.zero.den = false := e
    rw [hz] at e
    have e := of_decide_eq_false e
    by_cases p : o.pc = 0
    · exact ⟨fun _ => idle (.inr p), fun q => absurd p (of_decide_eq_false q)⟩
    · exact ⟨fun q => absurd (of_decide_eq_true q) p, fun _ => main e p⟩
end

theorem answer_spec {o : DOp} {h : Heap} {Q : Den KP2 → Heap → Prop} (hQ : Q (o.answer.1, (o.answer.2, ())) h) : deque_Answer.M o.den h Q := by
  have hz := o.eqK_zero
  unfold DOp.answer at hQ
  refine ⟨fun e => ?_, fun e => ?_⟩
  · have e : eqK KOp o.den DOp.zero.den = true := e
    rw [hz] at e
    rw [if_pos (of_decide_eq_true e)] at hQ
    exact hQ
  · have e : eqK KOp o.den DOp.zero.den = false := e
    rw [hz] at e
    rw [if_neg (of_decide_eq_false e)] at hQ
    refine dcase (p := o.pc ≠ 0) (fun p => ?_) (fun p => ?_)
    · rw [if_pos p] at hQ; exact hQ
    · rw [if_neg p] at hQ; exact hQ
theorem begin_spec {kind pc base most v : Int} {h : Heap} {Q : Den KOp → Heap → Prop} (hQ : Q (DOp.begin kind pc base most v).den h) : deque_begin.M kind pc (base, (most, ())) v h Q := by
  unfold DOp.begin at hQ
  refine dcase (fun e => ?_) (fun e => ?_)
  · have e : most < 1 := e
    rw [if_pos e] at hQ
    exact ⟨fun _ => hQ, fun q => (by cases q)⟩
  · have e : ¬ most < 1 := e
    rw [if_neg e] at hQ
    refine dcase (fun f => ?_) (fun f => ?_)
    · have f : 4096 < most := f
      rw [if_pos f] at hQ; exact hQ
    · have f : ¬ 4096 < most := f
      rw [if_neg f] at hQ; exact hQ
def DOp.push (base most v : Int) : DOp := DOp.begin 1 1 base most v
def DOp.pop (base most : Int) : DOp := DOp.begin 2 1 base most 0
def DOp.steal (base most : Int) : DOp := DOp.begin 3 2 base most 0
def DOp.look (base most : Int) : DOp := DOp.begin 4 2 base most 0
section
variable {base most : Int} {h : Heap} {c1 : Int → Int → Den KP2 → Int → Heap → (Den KOp → Heap → Prop) → Prop} (i1 : ∀ {k p b m v h Q}, deque_begin.M k p (b, (m, ())) v h Q → c1 k p (b, (m, ())) v h Q) {Q : Den KOp → Heap → Prop}
include i1
theorem dpush_spec {v : Int} (hQ : Q (DOp.push base most v).den h) : deque_Push.M c1 (base, (most, ())) v h Q := i1 (begin_spec hQ)
theorem dpop_spec (hQ : Q (DOp.pop base most).den h) : deque_Pop.M c1 (base, (most, ())) h Q := i1 (begin_spec hQ)
theorem dsteal_spec (hQ : Q (DOp.steal base most).den h) : deque_Steal.M c1 (base, (most, ())) h Q := i1 (begin_spec hQ)
theorem dlook_spec (hQ : Q (DOp.look base most).den h) : deque_Look.M c1 (base, (most, ())) h Q := i1 (begin_spec hQ)
end

end Go.Mx
