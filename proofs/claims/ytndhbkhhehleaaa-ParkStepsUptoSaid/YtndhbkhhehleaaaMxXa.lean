/-
  DequeMicro: machines on a memory that holds anything: what they hold is in range; what a refused step comes to.
-/
import Derived.Test.YtndhbkhhehleaaaMxUc
set_option linter.unusedVariables false
set_option linter.unusedSimpArgs false
set_option linter.unusedSectionVars false
namespace Go.Mx

def I64 (x : Int) : Prop := w64 x = x
theorem I64.w (x : Int) : I64 (w64 x) := by
  show w64 (w64 x) = w64 x
  obtain ⟨k, e, a, b⟩ := w64_wrap x
  rw [w64_of a b]
theorem I64.of {x : Int} (a : -9223372036854775808 ≤ x) (b : x < 9223372036854775808) : I64 x := w64_of a b
theorem I64.z : I64 0 := I64.of (by decide) (by decide)
/-- What a machine holds is in range. -/
structure InO (o : DOp) : Prop where
  m : I64 o.most
  v : I64 o.v
  t : I64 o.t
  b : I64 o.b
  x : I64 o.x
  a2 : I64 o.a2
  c2 : I64 o.c2
theorem InO.zero : InO DOp.zero := ⟨.z, .z, .z, .z, .z, .z, .z⟩
theorem InO.after {o : DOp} (h : InO o) {g : Int} (hg : I64 g) : InO (o.after g) := by
  unfold DOp.after
  refine pif (P := InO) (fun k => ?_) fun k => pif (P := InO) (fun k2 => ?_) fun k2 => pif (P := InO) (fun k3 => ?_) fun k3 => ?_
  · unfold DOp.pushed
    repeat' refine pif (P := InO) (fun _ => ?_) fun _ => ?_
    all_goals first
      | exact h
      | exact ⟨h.m, h.v, h.t, h.b, h.x, h.a2, h.c2⟩
      | exact ⟨h.m, h.v, h.t, hg, h.x, h.a2, h.c2⟩
      | exact ⟨h.m, h.v, hg, h.b, h.x, h.a2, h.c2⟩
      | exact ⟨h.m, h.v, h.t, h.b, hg, h.a2, h.c2⟩
      | exact ⟨h.m, h.v, h.t, h.b, h.x, hg, h.c2⟩
      | exact ⟨h.m, h.v, h.t, h.b, h.x, h.a2, pif (P := I64) (fun _ => h.m) (fun _ => .w _)⟩
  · unfold DOp.popped
    repeat' refine pif (P := InO) (fun _ => ?_) fun _ => ?_
    all_goals first
      | exact h
      | exact ⟨h.m, h.v, h.t, h.b, h.x, h.a2, h.c2⟩
      | exact ⟨h.m, h.v, h.t, .w _, h.x, h.a2, h.c2⟩
      | exact ⟨h.m, h.v, hg, h.b, h.x, h.a2, h.c2⟩
      | exact ⟨h.m, h.v, h.t, h.b, hg, h.a2, h.c2⟩
  · unfold DOp.stolen
    repeat' refine pif (P := InO) (fun _ => ?_) fun _ => ?_
    all_goals first
      | exact h
      | exact ⟨h.m, h.v, h.t, h.b, h.x, h.a2, h.c2⟩
      | exact ⟨h.m, h.v, h.t, hg, h.x, h.a2, h.c2⟩
      | exact ⟨h.m, h.v, hg, h.b, h.x, h.a2, h.c2⟩
      | exact ⟨h.m, h.v, h.t, h.b, hg, h.a2, h.c2⟩
  · unfold DOp.looked
    repeat' refine pif (P := InO) (fun _ => ?_) fun _ => ?_
    all_goals first
      | exact ⟨h.m, h.v, h.t, h.b, h.x, h.a2, h.c2⟩
      | exact ⟨h.m, h.v, hg, h.b, h.x, h.a2, h.c2⟩
theorem InO.begin {kind pc base most v : Int} (hm : I64 most) (hv : I64 v) : InO (DOp.begin kind pc base most v) :=
  pif (P := InO) (fun _ => .zero) fun _ => pif (P := InO) (fun _ => .zero) fun _ => ⟨hm, hv, .z, .z, .z, .z, .z⟩
def Rq.Rg : Rq → Prop
  | .st _ v => I64 v
  | .cas _ _ y => I64 y
  | _ => True
theorem InO.req {o : DOp} (h : InO o) : o.req.Rg := by
  unfold DOp.req
  repeat' refine pif (P := Rq.Rg) (fun _ => ?_) fun _ => ?_
  all_goals first
    | trivial
    | exact h.c2
    | exact h.x
    | exact h.a2
    | exact h.v
    | exact I64.w _
    | exact pif (P := I64) (fun _ => .w _) fun _ => pif (P := I64) (fun _ => h.b) fun _ => pif (P := I64) (fun _ => h.t) fun _ => .w _
def AS.Rg (s : AS) : Prop := ∀ x ∈ s.cs, I64 x
theorem AS.Rg.act {s : AS} (R : s.Rg) {n : Nat} (f : s.Fit n) {r : Rq} (hr : r.Rg) : (arenaI s r).2.Rg ∧ ∀ g, (arenaI s r).1 = some g → I64 g := by
  have at_ : ∀ a, I64 (s.at' a) := fun a => by
    unfold AS.at'
    cases e : s.cs[a.toNat]? with
    | none => exact .z
    | some v => exact R v (List.mem_of_getElem? e)
  have set_ : ∀ a v, I64 v → ∀ x ∈ s.cs.set a v, I64 x := fun a v hv x hx => (List.mem_or_eq_of_mem_set hx).elim (R x) fun e => e ▸ hv
  have non : s.Rg ∧ ∀ g, (none : Option Int) = some g → I64 g := ⟨R, fun g e => by cases e⟩
  cases r with
  | ld a => exact pif (P := fun p : Option Int × AS => p.2.Rg ∧ ∀ g, p.1 = some g → I64 g) (fun _ => ⟨R, fun g e => by cases e; exact at_ a⟩) fun _ => non
  | st a v => exact pif (P := fun p : Option Int × AS => p.2.Rg ∧ ∀ g, p.1 = some g → I64 g) (fun _ => ⟨set_ _ _ hr, fun g e => by cases e; exact .z⟩) fun _ => non
  | cas a x y => exact pif (P := fun p : Option Int × AS => p.2.Rg ∧ ∀ g, p.1 = some g → I64 g) (fun _ => ⟨pif (P := fun l : List Int => ∀ x ∈ l, I64 x) (fun _ => set_ _ _ hr) fun _ => R, fun g e => by cases e; exact pif (P := I64) (fun _ => .of (by decide) (by decide)) fun _ => .z⟩) fun _ => non
  | rs m =>
    refine pif (P := fun p : Option Int × AS => p.2.Rg ∧ ∀ g, p.1 = some g → I64 g) (fun _ => non) fun _ => pif (P := fun p : Option Int × AS => p.2.Rg ∧ ∀ g, p.1 = some g → I64 g) (fun _ => non) fun _ => ⟨fun x hx => ?_, fun g e => ?_⟩
    · rcases List.mem_append.1 hx with hx | hx
      · exact R x hx
      · rw [List.eq_of_mem_replicate hx]; exact .z
    · cases e
      have := f.cs; have := f.sz
      exact .of (by omega) (by omega)
theorem AS.Rg.step {s : AS} (R : s.Rg) {n : Nat} (f : s.Fit n) {o : DOp} (h : InO o) : (stepD arenaI s o).1.Rg ∧ InO (stepD arenaI s o).2 := by
  obtain ⟨r1, r2⟩ := R.act f h.req
  unfold stepD
  refine pif (P := fun p : AS × DOp => p.1.Rg ∧ InO p.2) (fun _ => ⟨R, h⟩) fun _ => pif (P := fun p : AS × DOp => p.1.Rg ∧ InO p.2) (fun _ => ⟨R, h⟩) fun _ => ?_
  split
  · exact ⟨r1, ⟨h.m, h.v, h.t, h.b, h.x, h.a2, h.c2⟩⟩
  · exact ⟨r1, h.after (r2 _ (by assumption))⟩

/-! ### a step that is refused -/
def darkD (o : DOp) : DOp := if o = DOp.zero then o else if o.pc = 0 then o else o.over 1 0
theorem darkD.ok {o : DOp} (h : o.Ok) : (darkD o).Ok := pif (P := DOp.Ok) (fun _ => h) fun _ => pif (P := DOp.Ok) (fun _ => h) fun _ => .over
theorem darkD.ino {o : DOp} (h : InO o) : InO (darkD o) := pif (P := InO) (fun _ => h) fun _ => pif (P := InO) (fun _ => h) fun _ => ⟨h.m, h.v, h.t, h.b, h.x, h.a2, h.c2⟩
theorem darkD.most (o : DOp) : (darkD o).most = o.most := pif (P := fun p : DOp => p.most = o.most) (fun _ => rfl) fun _ => pif (P := fun p : DOp => p.most = o.most) (fun _ => rfl) fun _ => rfl
theorem none_refuses {w : Int} {t : Bool} {r : Rq} : arenaI ⟨0, [], [], w, t⟩ r = (none, ⟨0, [], [], w, t⟩) := by
  have no : ∀ a : Int, ¬ AS.In ⟨0, [], [], w, t⟩ a := fun a h => by obtain ⟨a, b⟩ := h; simp at b; omega
  cases r with
  | ld a => exact if_neg (no a)
  | st a v => exact if_neg (no a)
  | cas a x y => exact if_neg (no a)
  | rs n =>
    show (if n < 1 then _ else if 0 - ((([] : List Int).length : Nat) : Int) < n then _ else _) = _
    by_cases z : n < 1
    · rw [if_pos z]
    · rw [if_neg z, if_pos (by simp; omega)]
theorem none_step {w : Int} {t : Bool} {o : DOp} : stepD arenaI ⟨0, [], [], w, t⟩ o = (⟨0, [], [], w, t⟩, darkD o) := by
  unfold stepD darkD
  rw [none_refuses]
  by_cases z : o = DOp.zero
  · rw [if_pos z, if_pos z]
  by_cases p : o.pc = 0
  · rw [if_neg z, if_neg z, if_pos p, if_pos p]
  · rw [if_neg z, if_neg z, if_neg p, if_neg p]
theorem RelO.dark {kind base most v : Int} {hs : List Int} {dead : Bool} {o : DOp} (R : RelO kind base most v hs dead o) : RelO kind base most v hs (if dead = true then true else decide ((0 : Int) ≤ o.want.1)) (darkD o) := by
  rcases want_dcase o with ⟨w, e⟩ | ⟨z, p, w⟩
  · have e1 : darkD o = o := by
      have := e ⟨0, [], [], 0, false⟩
      rw [none_step] at this
      exact (Prod.mk.injEq .. ▸ this).2
    rw [e1, decide_eq_false (Int.not_le.2 w)]
    cases dead
    · exact R
    · exact R
  · have e1 : darkD o = o.over 1 0 := by unfold darkD; rw [if_neg z, if_neg p]
    have hk : o.kind ≠ 0 := by
      rcases R with ⟨_, e⟩ | ⟨_, _, e⟩ | ⟨e, R⟩
      · rw [w] at e
        have := Rq.want_pos o.req
        rw [e] at this
        exact absurd (by decide) this
      · exact absurd e z
      · exact R.kind
    have hd : (if dead = true then true else decide ((0 : Int) ≤ o.want.1)) = true := by
      rw [w, decide_eq_true (Int.not_lt.1 (Rq.want_pos o.req))]
      cases dead <;> rfl
    rw [hd, e1]
    exact .inl ⟨rfl, want_end (by exact hk) rfl⟩
theorem RelO.born {kind base most v v' : Int} (k0 : 0 ≤ kind) (k3 : kind ≤ 3) (hb : I64 base) (hv : kind = 0 → v' = v) : RelO kind base most v [] false (if most < 1 then DOp.zero else if 4096 < most then DOp.zero else startK kind base most v') := by
  by_cases a : most < 1
  · rw [if_pos a]; exact .inr (.inl ⟨rfl, .inr (.inl a), rfl⟩)
  by_cases b : 4096 < most
  · rw [if_neg a, if_pos b]; exact .inr (.inl ⟨rfl, .inr (.inr b), rfl⟩)
  rw [if_neg a, if_neg b]
  exact .inr (.inr ⟨rfl, k0, k3, by omega, by omega, hb, fun _ i hi => I64.z, v', hv, rfl, .nil _⟩)
end Go.Mx
