/-
  A play of one deque, as plain data.
-/
import Derived.Test.YtppehoailhjdfaaMxQc
set_option linter.unusedVariables false
set_option linter.unusedSimpArgs false
namespace Go.Mx

abbrev KTd : Kd := .pair ki (.pair ki .nil)
abbrev KCl : Kd := .pair ki (.pair ki (.pair ki (.pair ki (.pair ki (.pair ki (.pair ki .nil))))))
abbrev DTd := Den KTd
abbrev DCl := Den KCl
structure PS where
  m : AS
  todos : List DTd
  acts : List (DOp × Int)
  calls : List DCl
def PS.act (p : PS) (who : Nat) : DOp × Int := p.acts[who]?.getD (DOp.zero, -1)
def newCall (who kind arg n : Int) : DCl := (who, (kind, (arg, (n, ((-1), (0, (0, ())))))))
def endCall (c : DCl) (n code v : Int) : DCl := (c.1, (c.2.1, (c.2.2.1, (c.2.2.2.1, (n, (code, (v, ())))))))
def endAt (calls : List DCl) (i : Nat) (n code v : Int) : List DCl := match calls[i]? with
  | some c => calls.set i (endCall c n code v)
  | none => calls
/-- The actor's next call. -/
def PS.begin (most : Int) (p : PS) (n : Int) (who : Nat) : Option PS :=
  if who = 0 then match p.todos with
    | [] => none
    | t :: ts => some { p with todos := ts, acts := p.acts.set 0 (if t.1 = 0 then DOp.push 0 most t.2.1 else DOp.pop 0 most, (p.calls.length : Int)), calls := p.calls ++ [newCall 0 t.1 (if t.1 = 0 then t.2.1 else 0) n] }
  else some { p with acts := p.acts.set who (DOp.steal 0 most, (p.calls.length : Int)), calls := p.calls ++ [newCall (who : Int) 2 0 n] }
/-- One step of the machine that it works at. -/
def PS.go (p : PS) (n : Int) (who : Nat) : PS :=
  if (stepD arenaI { p.m with who := (who : Int) } (p.act who).1).2.answer.1 = 0 then
    { p with m := (stepD arenaI { p.m with who := (who : Int) } (p.act who).1).1, acts := p.acts.set who ((stepD arenaI { p.m with who := (who : Int) } (p.act who).1).2, (p.act who).2) }
  else { p with m := (stepD arenaI { p.m with who := (who : Int) } (p.act who).1).1, acts := p.acts.set who ((stepD arenaI { p.m with who := (who : Int) } (p.act who).1).2, -1), calls := endAt p.calls (p.act who).2.toNat n (stepD arenaI { p.m with who := (who : Int) } (p.act who).1).2.answer.1 (stepD arenaI { p.m with who := (who : Int) } (p.act who).1).2.answer.2 }
def PS.step (most : Int) (p : PS) (n : Int) (who : Nat) : PS :=
  if (p.act who).2 < 0 then match p.begin most n who with
    | none => p
    | some q => q.go n who
  else p.go n who
def PS.run (most : Int) (p : PS) (n : Nat) : List Nat → PS
  | [] => p
  | w :: ws => PS.run most (p.step most (n : Int) w) (n + 1) ws
theorem PS.run_snoc (most : Int) : ∀ (ws : List Nat) (p : PS) (n w : Nat), PS.run most p n (ws ++ [w]) = (PS.run most p n ws).step most ((n + ws.length : Nat) : Int) w
  | [], p, n, w => rfl
  | x :: ws, p, n, w => by
    show PS.run most (p.step most (n : Int) x) (n + 1) (ws ++ [w]) = _
    rw [PS.run_snoc most ws]
    show _ = (PS.run most (p.step most (n : Int) x) (n + 1) ws).step most _ w
    congr 2
    simp only [List.length_cons]; omega

/-! ### bounds -/
structure PsOk (p : PS) (n : Nat) : Prop where
  fit : p.m.Fit n
  ok : ∀ a ∈ p.acts, a.1.Ok ∧ a.1.most ≤ 4096
  cl : ∀ a ∈ p.acts, a.2 < (p.calls.length : Int)
  cn : p.calls.length ≤ n
theorem endAt_len (calls : List DCl) (i : Nat) (n code v : Int) : (endAt calls i n code v).length = calls.length := by
  unfold endAt
  split
  · exact List.length_set
  · rfl
theorem act_mem {p : PS} {who : Nat} (h : who < p.acts.length) : p.act who ∈ p.acts := by
  unfold PS.act
  rw [List.getElem?_eq_getElem h]
  exact List.getElem_mem h
theorem mem_set' {α : Type} {l : List α} {i : Nat} {x a : α} (h : a ∈ l.set i x) : a ∈ l ∨ a = x := List.mem_or_eq_of_mem_set h
theorem begin_most {k pc most v : Int} : (DOp.begin k pc 0 most v).most ≤ 4096 := by
  unfold DOp.begin
  refine pif (P := fun o : DOp => o.most ≤ 4096) (fun _ => by decide) fun _ => pif (P := fun o : DOp => o.most ≤ 4096) (fun _ => by decide) fun q => by dsimp only; omega
theorem PsOk.begin {p : PS} {n : Nat} (h : PsOk p n) {most k : Int} {who : Nat} {q : PS} (e : p.begin most k who = some q) : PsOk q (n + 1) ∧ q.acts.length = p.acts.length ∧ q.m = p.m := by
  obtain ⟨h1, h2, h3, h4⟩ := h
  have fit : p.m.Fit (n + 1) := ⟨Nat.le_succ_of_le h1.lg, h1.cs, h1.sz⟩
  have key : ∀ (x : DOp) (i : Nat) (y : DCl) (ts : List DTd), x.Ok ∧ x.most ≤ 4096 → PsOk { p with todos := ts, acts := p.acts.set i (x, (p.calls.length : Int)), calls := p.calls ++ [y] } (n + 1) := fun x i y ts hx =>
    ⟨fit, fun a ha => by
      rcases mem_set' ha with ha | rfl
      · exact h2 a ha
      · exact hx, fun a ha => by
      show a.2 < ((p.calls ++ [y]).length : Int)
      rw [List.length_append]
      rcases mem_set' ha with ha | rfl
      · have := h3 a ha; simp; omega
      · simp; omega, by show (p.calls ++ [y]).length ≤ n + 1; rw [List.length_append]; simpa using h4⟩
  unfold PS.begin at e
  split at e
  · split at e
    · cases e
    · rename_i t ts _
      cases e
      refine ⟨key _ _ _ _ ?_, by show (p.acts.set _ _).length = _; rw [List.length_set], rfl⟩
      split
      · exact ⟨.begin (.inl rfl), begin_most⟩
      · exact ⟨.begin (.inl rfl), begin_most⟩
  · cases e
    exact ⟨key _ _ _ _ ⟨.begin (.inr rfl), begin_most⟩, by show (p.acts.set _ _).length = _; rw [List.length_set], rfl⟩
theorem PsOk.go {p : PS} {n : Nat} (h : PsOk p n) {k : Int} {who : Nat} (hw : who < p.acts.length) : PsOk (p.go k who) (n + 1) ∧ (p.go k who).acts.length = p.acts.length := by
  obtain ⟨h1, h2, h3, h4⟩ := h
  have f : AS.Fit { p.m with who := (who : Int) } n := ⟨h1.lg, h1.cs, h1.sz⟩
  have f2 := (f.step (p.act who).1).1
  have ha := h2 _ (act_mem hw)
  have so := stepD_ok arenaI { p.m with who := (who : Int) } ha.1 ha.2
  have hm : (stepD arenaI { p.m with who := (who : Int) } (p.act who).1).2.most ≤ 4096 := by rw [so.2.2.2.1]; exact ha.2
  unfold PS.go
  refine pif (P := fun q : PS => PsOk q (n + 1) ∧ q.acts.length = p.acts.length) (fun _ => ⟨⟨f2, fun a q => ?_, fun a q => ?_, Nat.le_succ_of_le h4⟩, List.length_set⟩) (fun _ => ⟨⟨f2, fun a q => ?_, fun a q => ?_, ?_⟩, List.length_set⟩)
  · rcases mem_set' q with q | rfl
    · exact h2 a q
    · exact ⟨so.1, hm⟩
  · rcases mem_set' q with q | rfl
    · exact h3 a q
    · exact h3 (p.act who) (act_mem hw)
  · rcases mem_set' q with q | rfl
    · exact h2 a q
    · exact ⟨so.1, hm⟩
  · dsimp only
    rw [endAt_len]
    rcases mem_set' q with q | rfl
    · exact h3 a q
    · show (-1 : Int) < _; omega
  · dsimp only
    rw [endAt_len]
    exact Nat.le_succ_of_le h4
theorem PsOk.step {p : PS} {n : Nat} (h : PsOk p n) {most k : Int} {who : Nat} (hw : who < p.acts.length) : PsOk (p.step most k who) (n + 2) ∧ (p.step most k who).acts.length = p.acts.length := by
  have up : ∀ {q : PS} {a b : Nat}, a ≤ b → PsOk q a → PsOk q b := fun {q a b} hab h => ⟨⟨Nat.le_trans h.fit.lg hab, h.fit.cs, h.fit.sz⟩, h.ok, h.cl, Nat.le_trans h.cn hab⟩
  unfold PS.step
  split
  · cases e : p.begin most k who with
    | none => exact ⟨up (by omega) h, rfl⟩
    | some q =>
      obtain ⟨h1, h2, h3⟩ := h.begin e
      have := h1.go (k := k) (who := who) (by omega)
      exact ⟨this.1, this.2.trans h2⟩
  · have := h.go (k := k) hw
    exact ⟨up (by omega) this.1, this.2⟩

end Go.Mx
