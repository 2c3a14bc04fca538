/-
  The values of a play: what its deque holds, and what its calls got.
-/
import Derived.Test.YtjkecefbbijajaaMxQs
set_option linter.unusedVariables false
set_option linter.unusedSimpArgs false
set_option linter.unusedSectionVars false
namespace Go.Mx

/-- What the deque holds, with what a pop has in its hand. -/
def vs (p : PS) : List Int := ctn p.m.cs ++ hand p.m.cs (p.act 0).1
/-- What a step does to it. -/
inductive VEff (l l' : List Int) (w : Nat) (o x : DOp) : Prop
  | same (e : l' = l) (z : x.pc = 0 → x.value = 0 ∧ x.code ≠ 2 ∧ x.code ≠ 4 ∧ x.code ≠ 0)
  | push (w0 : w = 0) (k : o.kind = 1) (p : x.pc = 0) (co : x.code = 2) (va : x.value = 0) (e : l' = l ++ [o.v])
  | pop (w0 : w = 0) (k : o.kind = 2) (p : x.pc = 0) (co : x.code = 4) (e : l = l' ++ [x.value])
  | steal (w0 : w ≠ 0) (k : o.kind = 3) (p : x.pc = 0) (co : x.code = 4) (e : l = x.value :: l')
theorem GoR.act {most : Int} {q : PS} {n : Int} {w : Nat} {v : Int} {m' : AS} {x : DOp} {N : Int} (r : GoR most q n w v m' x N) (hw : w < q.acts.length) : (q.go n w).m = m' ∧ ∀ j, ((q.go n w).act j).1 = if j = w then x else (q.act j).1 := by
  by_cases e : x.pc = 0
  · rw [r.off e]
    refine ⟨rfl, fun j => ?_⟩
    have := act_set (p := { q with m := m', calls := endAt q.calls (q.act w).2.toNat n x.code x.value }) (x := (x, -1)) (j := j) hw
    have h2 : ({ q with m := m', acts := q.acts.set w (x, -1), calls := endAt q.calls (q.act w).2.toNat n x.code x.value } : PS).act j = if j = w then (x, -1) else q.act j := this
    rw [h2]
    by_cases z : j = w
    · rw [if_pos z, if_pos z]
    · rw [if_neg z, if_neg z]
  · rw [r.on e]
    refine ⟨rfl, fun j => ?_⟩
    have := act_set (p := { q with m := m' }) (x := (x, (q.act w).2)) (j := j) hw
    have h2 : ({ q with m := m', acts := q.acts.set w (x, (q.act w).2) } : PS).act j = if j = w then (x, (q.act w).2) else q.act j := this
    rw [h2]
    by_cases z : j = w
    · rw [if_pos z, if_pos z]
    · rw [if_neg z, if_neg z]
theorem GoR.veff {most : Int} {q : PS} {n : Int} {w : Nat} {v : Int} {m' : AS} {x : DOp} {N : Int} (r : GoR most q n w v m' x N) (hw : w < q.acts.length) : VEff (vs q) (vs (q.go n w)) w (q.act w).1 x := by
  obtain ⟨e1, e2⟩ := r.act hw
  have ev : vs (q.go n w) = ctn m'.cs ++ hand m'.cs (if 0 = w then x else (q.act 0).1) := by
    unfold vs
    rw [e1, e2 0]
  rw [ev]
  unfold vs
  by_cases e : w = 0
  · subst e
    rw [if_pos rfl]
    cases r.own rfl with
    | same p c h => exact .same (by rw [c, h]) fun z => absurd z p
    | push k p co va c h h' => exact .push rfl k p co va (by rw [c, h, h']; simp)
    | full k p co va c h h' => exact .same (by rw [c, h, h']) fun _ => ⟨va, by omega, by omega, by omega⟩
    | low k p h c => exact .same (by rw [c, h]; simp) fun z => absurd z p
    | got k p co c h h' => exact .pop rfl k p co (by rw [c, h, h']; simp)
    | empty k p co va c h h' => exact .same (by rw [c, h, h']) fun _ => ⟨va, by omega, by omega, by omega⟩
    | won k p c h => exact .same (by rw [c, h]) fun z => absurd z p
  · rw [if_neg (fun z => e z.symm)]
    cases r.thief e with
    | same p c => exact .same (by rw [c]) fun z => absurd z p
    | empty k p co va c => exact .same (by rw [c]) fun _ => ⟨va, by omega, by omega, by omega⟩
    | lost k p co va c => exact .same (by rw [c]) fun _ => ⟨va, by omega, by omega, by omega⟩
    | got k p co va t t' b' c =>
      refine .steal e k p co ?_
      rcases c with ⟨c1, c2⟩ | ⟨c1, c2, c3, c4⟩
      · rw [c1, c2]; rfl
      · rw [c1, c2, c3, c4]; rfl
    | look k p co va c => exact .same (by rw [c]) fun _ => ⟨va, by omega, by omega, by omega⟩

def fG (x : Int) (c : DCl) : Int := if dCode c = 4 ∧ dVal c = x then 1 else 0
def fU (x : Int) (c : DCl) : Int := if dKind c = 0 ∧ dCode c = 2 ∧ dArg c = x then 1 else 0
def fGt (c : DCl) : Int := if dCode c = 4 then 1 else 0
def fUt (c : DCl) : Int := if dKind c = 0 ∧ dCode c = 2 then 1 else 0
/-- A push that has its argument from the numbered todos. -/
structure VI (k : Nat) (p : PS) : Prop where
  cd : ∀ (i : Nat) c, p.calls[i]? = some c → (dCode c = 4 → dKind c ≠ 0) ∧ (dCode c ≠ 4 → dVal c = 0) ∧ (dCode c = 2 → dKind c = 0) ∧ dEnd c < (k : Int) ∧ (dEnd c = -1 → dCode c = 0)
  cnt : ∀ x, wsum (fG x) p.calls + ((vs p).count x : Int) = wsum (fU x) p.calls
  tot : wsum fGt p.calls + ((vs p).length : Int) = wsum fUt p.calls
  ord : (vs p).Pairwise (· < ·)
  st1 : ∀ (i : Nat) c, p.calls[i]? = some c → dWho c ≠ 0 → dCode c = 4 → ∀ x ∈ vs p, dVal c < x
  st2 : ∀ (i j : Nat) a b, p.calls[i]? = some a → p.calls[j]? = some b → dWho a ≠ 0 → dWho b ≠ 0 → dCode a = 4 → dCode b = 4 → dEnd a < dEnd b → dVal a < dVal b
  gp : ∀ (i : Nat) c, p.calls[i]? = some c → dCode c = 4 → ∃ (j : Nat) (a : DCl), p.calls[j]? = some a ∧ dKind a = 0 ∧ dCode a = 2 ∧ dArg a = dVal c ∧ dEnd a < dEnd c
  vv : ∀ c, 0 ≤ (p.act 0).2 → (p.act 0).1.kind = 1 → p.calls[(p.act 0).2.toNat]? = some c → (p.act 0).1.v = dArg c
/-- What is in the deque was pushed. -/
theorem VI.put {k : Nat} {p : PS} (h : VI k p) {x : Int} (hx : x ∈ vs p) : ∃ (j : Nat) (a : DCl), p.calls[j]? = some a ∧ dKind a = 0 ∧ dCode a = 2 ∧ dArg a = x := by
  have c := h.cnt x
  have c1 : 0 < (vs p).count x := List.count_pos_iff.2 hx
  have c2 := wsum_nn (f := fG x) (l := p.calls) fun y _ => by unfold fG; split <;> decide
  obtain ⟨j, a, z1, z2⟩ := wsum_pos (f := fU x) (l := p.calls) (by omega)
  unfold fU at z2
  by_cases e : dKind a = 0 ∧ dCode a = 2 ∧ dArg a = x
  · exact ⟨j, a, z1, e.1, e.2.1, e.2.2⟩
  · rw [if_neg e] at z2; exact absurd z2 (by decide)
theorem VI.snoc {k : Nat} {p q : PS} (h : VI k p) {y : DCl} (ec : q.calls = p.calls ++ [y]) (ev : vs q = vs p) (y1 : dCode y = 0) (y2 : dVal y = 0) (y3 : dEnd y = -1) (hv : ∀ c, 0 ≤ (q.act 0).2 → (q.act 0).1.kind = 1 → q.calls[(q.act 0).2.toNat]? = some c → (q.act 0).1.v = dArg c) : VI k q := by
  have keep : ∀ {i : Nat} {c : DCl}, p.calls[i]? = some c → q.calls[i]? = some c := fun {i c} hc => by
    rw [ec, List.getElem?_append_left (List.getElem?_eq_some_iff.1 hc).1]; exact hc
  have back : ∀ {i : Nat} {c : DCl}, q.calls[i]? = some c → p.calls[i]? = some c ∨ c = y := fun {i c} hc => by
    rw [ec] at hc
    rcases getElem?_snoc hc with ⟨_, hc⟩ | ⟨_, rfl⟩
    · exact .inl hc
    · exact .inr rfl
  have y4 : dCode y ≠ 4 := by rw [y1]; decide
  refine ⟨fun i c hc => ?_, fun x => ?_, ?_, by rw [ev]; exact h.ord, fun i c hc hw h4 => ?_, fun i j a b ha hb => ?_, fun i c hc h4 => ?_, hv⟩
  · rcases back hc with hc | rfl
    · exact h.cd i c hc
    · exact ⟨fun z => absurd z y4, fun _ => y2, fun z => by rw [y1] at z; exact absurd z (by decide), by rw [y3]; omega, fun _ => y1⟩
  · rw [ec, ev, wsum_snoc, wsum_snoc, show fG x y = 0 from if_neg (fun q => y4 q.1), show fU x y = 0 from if_neg (fun q => by have := q.2.1; rw [y1] at this; exact absurd this (by decide))]
    have := h.cnt x; omega
  · rw [ec, ev, wsum_snoc, wsum_snoc, show fGt y = 0 from if_neg y4, show fUt y = 0 from if_neg (fun q => by have := q.2; rw [y1] at this; exact absurd this (by decide))]
    have := h.tot; omega
  · rw [ev]
    rcases back hc with hc | rfl
    · exact h.st1 i c hc hw h4
    · exact absurd h4 y4
  · intro w1 w2 d1 d2
    rcases back ha with ha | rfl
    · rcases back hb with hb | rfl
      · exact h.st2 i j a b ha hb w1 w2 d1 d2
      · exact absurd d2 y4
    · exact absurd d1 y4
  · rcases back hc with hc | rfl
    · obtain ⟨j, a, z1, z2⟩ := h.gp i c hc h4
      exact ⟨j, a, keep z1, z2⟩
    · exact absurd h4 y4
theorem VI.pre {most : Int} {k : Nat} {p : PS} (h : VI k p) {w : Nat} (hw : w < p.acts.length) {N : Int} (pi : PI most p N) {q : PS} (e : p.pre most (k : Int) w = some q) : VI k q := by
  obtain ⟨_, _, _, _, _, c1, c2⟩ := pi.pre hw e
  have ev : vs q = vs p := by unfold vs; rw [c1, c2]
  have m1 : 1 ≤ most := by have := pi.dg.c1; have := pi.dg.cm; omega
  have m2 := pi.dg.mx
  have last : ∀ (y c : DCl), (p.calls ++ [y])[((p.calls.length : Int)).toNat]? = some c → c = y := fun y c hc => by
    rw [Int.toNat_natCast, List.getElem?_append_right (Nat.le_refl _), Nat.sub_self] at hc
    exact (Option.some.inj hc).symm
  have h0 := pi.pos
  cases pre_cases e with
  | on _ eq => subst eq; exact h
  | push w0 h1 t ts et k1 eq =>
    subst eq
    refine h.snoc rfl ev rfl rfl rfl fun c _ _ hc => ?_
    have ea : ({ p with todos := ts, acts := p.acts.set 0 (DOp.push 0 most t.2.1, (p.calls.length : Int)), calls := p.calls ++ [newCall 0 t.1 t.2.1 (k : Int)] } : PS).act 0 = (DOp.push 0 most t.2.1, (p.calls.length : Int)) := (act_set (p := p) (j := 0) h0).trans (if_pos rfl)
    rw [ea] at hc ⊢
    rw [last _ _ hc]
    show (DOp.push 0 most t.2.1).v = t.2.1
    unfold DOp.push
    rw [begin_eq m1 m2]
  | pop w0 h1 t ts et k1 eq =>
    subst eq
    refine h.snoc rfl ev rfl rfl rfl fun c _ hk hc => ?_
    have ea : ({ p with todos := ts, acts := p.acts.set 0 (DOp.pop 0 most, (p.calls.length : Int)), calls := p.calls ++ [newCall 0 t.1 0 (k : Int)] } : PS).act 0 = (DOp.pop 0 most, (p.calls.length : Int)) := (act_set (p := p) (j := 0) h0).trans (if_pos rfl)
    rw [ea] at hk
    have : (DOp.pop 0 most).kind = 2 := by unfold DOp.pop; rw [begin_eq m1 m2]
    rw [this] at hk
    exact absurd hk (by decide)
  | steal w0 h1 eq =>
    subst eq
    refine h.snoc rfl ev rfl rfl rfl fun c hr hk hc => ?_
    have ea : ({ p with acts := p.acts.set w (DOp.steal 0 most, (p.calls.length : Int)), calls := p.calls ++ [newCall (w : Int) 2 0 (k : Int)] } : PS).act 0 = p.act 0 := (act_set (p := p) (j := 0) hw).trans (if_neg (fun z => w0 z.symm))
    rw [ea] at hr hk hc ⊢
    have hc2 : (p.calls ++ [newCall (w : Int) 2 0 (k : Int)])[(p.act 0).2.toNat]? = some c := hc
    rw [List.getElem?_append_left (by have := pi.call 0 h0; omega)] at hc2
    exact h.vv c hr hk hc2
end Go.Mx
