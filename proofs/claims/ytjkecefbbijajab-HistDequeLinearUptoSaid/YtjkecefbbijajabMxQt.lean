/-
  The values of a play: what its deque holds, and what its calls got.
  The values of a play: how a step keeps what holds of them.
-/
import Derived.Test.YtjkecefbbijajabMxQp
set_option linter.unusedVariables false
set_option linter.unusedSimpArgs false
set_option linter.unusedSectionVars false
namespace Go.Mx

/-- What the deque holds, with what a pop has in its hand. -/
def vs (p : PS) : List Int := ctn p.m.cs ++ hand p.m.cs (p.act 0).1
/-- What a step does to it. -/
inductive VEff (l l' : List Int) (w : Nat) (o x : DOp) : Prop
  | same (e : l' = l) (z : x.pc = 0 → x.value = 0 ∧ x.code ≠ 2 ∧ x.code ≠ 4 ∧ x.code ≠ 0)
  | push (w0 : w = 0) (k : o.kind = 1) (p : x.pc = 0) (co : x.code = 2) (va : x.value = 0) (e : l' = l ++ [o.v])
  | pop (w0 : w = 0) (k : o.kind = 2) (p : x.pc = 0) (co : x.code = 4) (e : l = l' ++ [x.value])
  | steal (w0 : w ≠ 0) (k : o.kind = 3) (p : x.pc = 0) (co : x.code = 4) (e : l = x.value :: l')
theorem GoR.act {most : Int} {q : PS} {n : Int} {w : Nat} {v : Int} {m' : AS} {x : DOp} {N : Int} (r : GoR most q n w v m' x N) (hw : w < q.acts.length) : (q.go n w).m = m' ∧ ∀ j, ((q.go n w).act j).1 = if j = w then x else (q.act j).1 := by
  by_cases e : x.pc = 0
  · rw [r.off e]
    refine ⟨rfl, fun j => ?_⟩
    have := act_set (p := { q with m := m', calls := endAt q.calls (q.act w).2.toNat n x.code x.value }) (x := (x, -1)) (j := j) hw
    have h2 : ({ q with m := m', acts := q.acts.set w (x, -1), calls := endAt q.calls (q.act w).2.toNat n x.code x.value } : PS).act j = if j = w then (x, -1) else q.act j := this
    rw [h2]
    by_cases z : j = w
    · rw [if_pos z, if_pos z]
    · rw [if_neg z, if_neg z]
  · rw [r.on e]
    refine ⟨rfl, fun j => ?_⟩
    have := act_set (p := { q with m := m' }) (x := (x, (q.act w).2)) (j := j) hw
    have h2 : ({ q with m := m', acts := q.acts.set w (x, (q.act w).2) } : PS).act j = if j = w then (x, (q.act w).2) else q.act j := this
    rw [h2]
    by_cases z : j = w
    · rw [if_pos z, if_pos z]
    · rw [if_neg z, if_neg z]
theorem GoR.veff {most : Int} {q : PS} {n : Int} {w : Nat} {v : Int} {m' : AS} {x : DOp} {N : Int} (r : GoR most q n w v m' x N) (hw : w < q.acts.length) : VEff (vs q) (vs (q.go n w)) w (q.act w).1 x := by
  obtain ⟨e1, e2⟩ := r.act hw
  have ev : vs (q.go n w) = ctn m'.cs ++ hand m'.cs (if 0 = w then x else (q.act 0).1) := by
    unfold vs
    rw [e1, e2 0]
  rw [ev]
  unfold vs
  by_cases e : w = 0
  · subst e
    rw [if_pos rfl]
    cases r.own rfl with
    | same p c h => exact .same (by rw [c, h]) fun z => absurd z p
    | push k p co va c h h' => exact .push rfl k p co va (by rw [c, h, h']; simp)
    | full k p co va c h h' => exact .same (by rw [c, h, h']) fun _ => ⟨va, by omega, by omega, by omega⟩
    | low k p h c => exact .same (by rw [c, h]; simp) fun z => absurd z p
    | got k p co c h h' => exact .pop rfl k p co (by rw [c, h, h']; simp)
    | empty k p co va c h h' => exact .same (by rw [c, h, h']) fun _ => ⟨va, by omega, by omega, by omega⟩
    | won k p c h => exact .same (by rw [c, h]) fun z => absurd z p
  · rw [if_neg (fun z => e z.symm)]
    cases r.thief e with
    | same p c => exact .same (by rw [c]) fun z => absurd z p
    | empty k p co va c => exact .same (by rw [c]) fun _ => ⟨va, by omega, by omega, by omega⟩
    | lost k p co va c => exact .same (by rw [c]) fun _ => ⟨va, by omega, by omega, by omega⟩
    | got k p co va t t' b' c =>
      refine .steal e k p co ?_
      rcases c with ⟨c1, c2⟩ | ⟨c1, c2, c3, c4⟩
      · rw [c1, c2]; rfl
      · rw [c1, c2, c3, c4]; rfl
    | look k p co va c => exact .same (by rw [c]) fun _ => ⟨va, by omega, by omega, by omega⟩

def fG (x : Int) (c : DCl) : Int := if dCode c = 4 ∧ dVal c = x then 1 else 0
def fU (x : Int) (c : DCl) : Int := if dKind c = 0 ∧ dCode c = 2 ∧ dArg c = x then 1 else 0
def fGt (c : DCl) : Int := if dCode c = 4 then 1 else 0
def fUt (c : DCl) : Int := if dKind c = 0 ∧ dCode c = 2 then 1 else 0
/-- A push that has its argument from the numbered todos. -/
structure VI (k : Nat) (p : PS) : Prop where
  cd : ∀ (i : Nat) c, p.calls[i]? = some c → (dCode c = 4 → dKind c ≠ 0) ∧ (dCode c ≠ 4 → dVal c = 0) ∧ (dCode c = 2 → dKind c = 0) ∧ dEnd c < (k : Int) ∧ (dEnd c = -1 → dCode c = 0)
  cnt : ∀ x, wsum (fG x) p.calls + ((vs p).count x : Int) = wsum (fU x) p.calls
  tot : wsum fGt p.calls + ((vs p).length : Int) = wsum fUt p.calls
  ord : (vs p).Pairwise (· < ·)
  st1 : ∀ (i : Nat) c, p.calls[i]? = some c → dWho c ≠ 0 → dCode c = 4 → ∀ x ∈ vs p, dVal c < x
  st2 : ∀ (i j : Nat) a b, p.calls[i]? = some a → p.calls[j]? = some b → dWho a ≠ 0 → dWho b ≠ 0 → dCode a = 4 → dCode b = 4 → dEnd a < dEnd b → dVal a < dVal b
  gp : ∀ (i : Nat) c, p.calls[i]? = some c → dCode c = 4 → ∃ (j : Nat) (a : DCl), p.calls[j]? = some a ∧ dKind a = 0 ∧ dCode a = 2 ∧ dArg a = dVal c ∧ dEnd a < dEnd c
  vv : ∀ c, 0 ≤ (p.act 0).2 → (p.act 0).1.kind = 1 → p.calls[(p.act 0).2.toNat]? = some c → (p.act 0).1.v = dArg c
/-- What is in the deque was pushed. -/
theorem VI.put {k : Nat} {p : PS} (h : VI k p) {x : Int} (hx : x ∈ vs p) : ∃ (j : Nat) (a : DCl), p.calls[j]? = some a ∧ dKind a = 0 ∧ dCode a = 2 ∧ dArg a = x := by
  have c := h.cnt x
  have c1 : 0 < (vs p).count x := List.count_pos_iff.2 hx
  have c2 := wsum_nn (f := fG x) (l := p.calls) fun y _ => by unfold fG; split <;> decide
  obtain ⟨j, a, z1, z2⟩ := wsum_pos (f := fU x) (l := p.calls) (by omega)
  unfold fU at z2
  by_cases e : dKind a = 0 ∧ dCode a = 2 ∧ dArg a = x
  · exact ⟨j, a, z1, e.1, e.2.1, e.2.2⟩
  · rw [if_neg e] at z2; exact absurd z2 (by decide)
theorem VI.snoc {k : Nat} {p q : PS} (h : VI k p) {y : DCl} (ec : q.calls = p.calls ++ [y]) (ev : vs q = vs p) (y1 : dCode y = 0) (y2 : dVal y = 0) (y3 : dEnd y = -1) (hv : ∀ c, 0 ≤ (q.act 0).2 → (q.act 0).1.kind = 1 → q.calls[(q.act 0).2.toNat]? = some c → (q.act 0).1.v = dArg c) : VI k q := by
  have keep : ∀ {i : Nat} {c : DCl}, p.calls[i]? = some c → q.calls[i]? = some c := fun {i c} hc => by
    rw [ec, List.getElem?_append_left (List.getElem?_eq_some_iff.1 hc).1]; exact hc
  have back : ∀ {i : Nat} {c : DCl}, q.calls[i]? = some c → p.calls[i]? = some c ∨ c = y := fun {i c} hc => by
    rw [ec] at hc
    rcases getElem?_snoc hc with ⟨_, hc⟩ | ⟨_, rfl⟩
    · exact .inl hc
    · exact .inr rfl
  have y4 : dCode y ≠ 4 := by rw [y1]; decide
  refine ⟨fun i c hc => ?_, fun x => ?_, ?_, by rw [ev]; exact h.ord, fun i c hc hw h4 => ?_, fun i j a b ha hb => ?_, fun i c hc h4 => ?_, hv⟩
  · rcases back hc with hc | rfl
    · exact h.cd i c hc
    · exact ⟨fun z => absurd z y4, fun _ => y2, fun z => by rw [y1] at z; exact absurd z (by decide), by rw [y3]; omega, fun _ => y1⟩
  · rw [ec, ev, wsum_snoc, wsum_snoc, show fG x y = 0 from if_neg (fun q => y4 q.1), show fU x y = 0 from if_neg (fun q => by have := q.2.1; rw [y1] at this; exact absurd this (by decide))]
    have := h.cnt x; omega
  · rw [ec, ev, wsum_snoc, wsum_snoc, show fGt y = 0 from if_neg y4, show fUt y = 0 from if_neg (fun q => by have := q.2; rw [y1] at this; exact absurd this (by decide))]
    have := h.tot; omega
  · rw [ev]
    rcases back hc with hc | rfl
    · exact h.st1 i c hc hw h4
    · exact absurd h4 y4
  · intro w1 w2 d1 d2
    rcases back ha with ha | rfl
    · rcases back hb with hb | rfl
      · exact h.st2 i j a b ha hb w1 w2 d1 d2
      · exact absurd d2 y4
    · exact absurd d1 y4
  · rcases back hc with hc | rfl
    · obtain ⟨j, a, z1, z2⟩ := h.gp i c hc h4
      exact ⟨j, a, keep z1, z2⟩
    · exact absurd h4 y4
theorem VI.pre {most : Int} {k : Nat} {p : PS} (h : VI k p) {w : Nat} (hw : w < p.acts.length) {N : Int} (pi : PI most p N) {q : PS} (e : p.pre most (k : Int) w = some q) : VI k q := by
  obtain ⟨_, _, _, _, _, c1, c2⟩ := pi.pre hw e
  have ev : vs q = vs p := by unfold vs; rw [c1, c2]
  have m1 : 1 ≤ most := by have := pi.dg.c1; have := pi.dg.cm; omega
  have m2 := pi.dg.mx
  have last : ∀ (y c : DCl), (p.calls ++ [y])[((p.calls.length : Int)).toNat]? = some c → c = y := fun y c hc => by
    rw [Int.toNat_natCast, List.getElem?_append_right (Nat.le_refl _), Nat.sub_self] at hc
    exact (Option.some.inj hc).symm
  have h0 := pi.pos
  cases pre_cases e with
  | on _ eq => subst eq; exact h
  | push w0 h1 t ts et k1 eq =>
    subst eq
    refine h.snoc rfl ev rfl rfl rfl fun c _ _ hc => ?_
    have ea : ({ p with todos := ts, acts := p.acts.set 0 (DOp.push 0 most t.2.1, (p.calls.length : Int)), calls := p.calls ++ [newCall 0 t.1 t.2.1 (k : Int)] } : PS).act 0 = (DOp.push 0 most t.2.1, (p.calls.length : Int)) := (act_set (p := p) (j := 0) h0).trans (if_pos rfl)
    rw [ea] at hc ⊢
    rw [last _ _ hc]
    show (DOp.push 0 most t.2.1).v = t.2.1
    unfold DOp.push
    rw [begin_eq m1 m2]
  | pop w0 h1 t ts et k1 eq =>
    subst eq
    refine h.snoc rfl ev rfl rfl rfl fun c _ hk hc => ?_
    have ea : ({ p with todos := ts, acts := p.acts.set 0 (DOp.pop 0 most, (p.calls.length : Int)), calls := p.calls ++ [newCall 0 t.1 0 (k : Int)] } : PS).act 0 = (DOp.pop 0 most, (p.calls.length : Int)) := (act_set (p := p) (j := 0) h0).trans (if_pos rfl)
    rw [ea] at hk
    have : (DOp.pop 0 most).kind = 2 := by unfold DOp.pop; rw [begin_eq m1 m2]
    rw [this] at hk
    exact absurd hk (by decide)
  | steal w0 h1 eq =>
    subst eq
    refine h.snoc rfl ev rfl rfl rfl fun c hr hk hc => ?_
    have ea : ({ p with acts := p.acts.set w (DOp.steal 0 most, (p.calls.length : Int)), calls := p.calls ++ [newCall (w : Int) 2 0 (k : Int)] } : PS).act 0 = p.act 0 := (act_set (p := p) (j := 0) hw).trans (if_neg (fun z => w0 z.symm))
    rw [ea] at hr hk hc ⊢
    have hc2 : (p.calls ++ [newCall (w : Int) 2 0 (k : Int)])[(p.act 0).2.toNat]? = some c := hc
    rw [List.getElem?_append_left (by have := pi.call 0 h0; omega)] at hc2
    exact h.vv c hr hk hc2
end Go.Mx

namespace Go.Mx

theorem nOf_mono {w : Nat} {l : List DCl} {i j : Nat} (h : i ≤ j) : nOf w (l.take i) ≤ nOf w (l.take j) := by
  unfold nOf
  have e : l.take i = (l.take j).take i := by rw [List.take_take, Nat.min_eq_left h]
  rw [e]
  exact ((List.take_sublist i (l.take j)).filter _).length_le
theorem nOf_lt {w : Nat} {l : List DCl} {i j : Nat} {a : DCl} (h : i < j) (ha : l[i]? = some a) (hw : dWho a = (w : Int)) : nOf w (l.take i) < nOf w (l.take j) := by
  have h1 := nOf_succ (w := w) ha
  rw [if_pos hw] at h1
  have := nOf_mono (w := w) (l := l) (i := i + 1) (j := j) h
  omega
/-- A push of the owner has its number as its argument. -/
theorem HI.own_num {W : List Nat} {td : List DTd} {k : Nat} {p : PS} (h : HI W (numb td) k p) {i : Nat} {c : DCl} (hc : p.calls[i]? = some c) (hw : dWho c = 0) (hk : dKind c = 0) : dArg c = (nOf 0 (p.calls.take i) : Int) ∧ nOf 0 (p.calls.take i) < td.length := by
  obtain ⟨dn, d1, d2⟩ := h.tds
  have g := filter_get ownC hc (decide_eq_true hw)
  have g2 : ((p.calls.filter ownC).map (fun c => (dKind c, dArg c)))[nOf 0 (p.calls.take i)]? = some (dKind c, dArg c) := by
    rw [List.getElem?_map]
    show ((p.calls.filter ownC)[((p.calls.take i).filter ownC).length]?).map _ = _
    rw [g]; rfl
  rw [d2, List.getElem?_map] at g2
  cases e : dn[nOf 0 (p.calls.take i)]? with
  | none => rw [e] at g2; cases g2
  | some t =>
    rw [e] at g2
    have g3 : askOf t = (dKind c, dArg c) := Option.some.inj g2
    have e1 : (numb td)[nOf 0 (p.calls.take i)]? = some t := by rw [d1, List.getElem?_append_left (List.getElem?_eq_some_iff.1 e).1]; exact e
    have hl := (List.getElem?_eq_some_iff.1 e1).1
    rw [numb_len] at hl
    rw [numb_get] at e1
    cases z : td[nOf 0 (p.calls.take i)]? with
    | none => rw [z] at e1; cases e1
    | some t' =>
      rw [z] at e1
      have e2 := Option.some.inj e1
      have e3 : t.2.1 = (nOf 0 (p.calls.take i) : Int) := by rw [← e2]
      have k1 : t.1 = 0 := (congrArg (·.1) g3).trans hk
      have k2 := congrArg (·.2) g3
      unfold askOf at k2
      rw [if_pos k1] at k2
      exact ⟨k2.symm.trans e3, hl⟩
theorem kind_own {W : List Nat} {td : List DTd} {k : Nat} {p : PS} (h : HI W td k p) {i : Nat} {c : DCl} (hc : p.calls[i]? = some c) (hk : dKind c = 0) : dWho c = 0 := by
  obtain ⟨w, b, q1, q2, q3, q4, q5, q6⟩ := h.c1 i c hc
  by_cases e : w = 0
  · rw [q1, e]; rfl
  · have := q6 e; omega
/-- The arguments of two pushes differ as their calls. -/
theorem HI.arg_lt {W : List Nat} {td : List DTd} {k : Nat} {p : PS} (h : HI W (numb td) k p) {i j : Nat} {a b : DCl} (hij : i < j) (ha : p.calls[i]? = some a) (hb : p.calls[j]? = some b) (ka : dKind a = 0) (kb : dKind b = 0) : dArg a < dArg b := by
  have wa := kind_own h ha ka
  have := (h.own_num ha wa ka).1
  have := (h.own_num hb (kind_own h hb kb) kb).1
  have := nOf_lt (w := 0) hij ha wa
  omega
theorem HI.arg_inj {W : List Nat} {td : List DTd} {k : Nat} {p : PS} (h : HI W (numb td) k p) {i j : Nat} {a b : DCl} (ha : p.calls[i]? = some a) (hb : p.calls[j]? = some b) (ka : dKind a = 0) (kb : dKind b = 0) (e : dArg a = dArg b) : i = j := by
  rcases Nat.lt_trichotomy i j with z | z | z
  · have := h.arg_lt z ha hb ka kb; omega
  · exact z
  · have := h.arg_lt z hb ha kb ka; omega

theorem VI.go {W : List Nat} {td : List DTd} {most : Int} {k : Nat} {q : PS} (h : VI k q) (ai : AI W most k q) (hi : HI W (numb td) (k + 1) q) {w : Nat} (hw : w < q.acts.length) (hr : 0 ≤ (q.act w).2) {N : Int} (pi : PI most q N) {v : Int} {m' : AS} {x : DOp} (r : GoR most q (k : Int) w v m' x N) : VI (k + 1) (q.go (k : Int) w) := by
  have ve := r.veff hw
  have sm := (q.act w).1.after_same v
  rw [← r.ex] at sm
  obtain ⟨c0, r1, r2, r3, r4, r5⟩ := ai.s0 w hw hr
  have c00 := (h.cd _ c0 r1).2.2.2.2 r3
  by_cases xp : x.pc = 0
  · have eg := r.off xp
    have ec : (q.go (k : Int) w).calls = endAt q.calls (q.act w).2.toNat (k : Int) x.code x.value := by rw [eg]
    have ea : ∀ j, (q.go (k : Int) w).act j = if j = w then (x, -1) else q.act j := fun j => by
      rw [eg]
      exact act_set (p := { q with m := m', calls := endAt q.calls (q.act w).2.toNat (k : Int) x.code x.value }) (x := (x, -1)) (j := j) hw
    have get := fun j c => endAt_get r1 (k : Int) x.code x.value j c
    rw [← ec] at get
    have sum := fun f => wsum_end f r1 (k : Int) x.code x.value
    rw [← ec] at sum
    generalize q.go (k : Int) w = q' at *
    -- what a call was before
    have back : ∀ {i : Nat} {c : DCl}, q'.calls[i]? = some c → (i = (q.act w).2.toNat ∧ c = endCall c0 (k : Int) x.code x.value) ∨ (i ≠ (q.act w).2.toNat ∧ q.calls[i]? = some c) := fun {i c} hc => (get i c).1 hc
    have keep : ∀ {i : Nat} {c : DCl}, q.calls[i]? = some c → dCode c ≠ 0 → q'.calls[i]? = some c := fun {i c} hc hz => (get i c).2 (.inr ⟨fun z => by
      subst z; rw [r1] at hc; cases hc; exact hz c00, hc⟩)
    have vv : ∀ c, 0 ≤ (q'.act 0).2 → (q'.act 0).1.kind = 1 → q'.calls[(q'.act 0).2.toNat]? = some c → (q'.act 0).1.v = dArg c := fun c g1 g2 g3 => by
      rw [ea] at g1 g2 g3 ⊢
      by_cases e : 0 = w
      · rw [if_pos e] at g1; exact absurd (show (0 : Int) ≤ -1 from g1) (by decide)
      · rw [if_neg e] at g1 g2 g3 ⊢
        rcases back g3 with ⟨z1, z2⟩ | ⟨_, z⟩
        · rw [z2]
          exact h.vv c0 g1 g2 (by rw [z1]; exact r1)
        · exact h.vv c g1 g2 z
    have cd : (dKind c0 = 0 → x.code ≠ 4) → (x.code ≠ 4 → x.value = 0) → (x.code = 2 → dKind c0 = 0) → ∀ (i : Nat) c, q'.calls[i]? = some c → (dCode c = 4 → dKind c ≠ 0) ∧ (dCode c ≠ 4 → dVal c = 0) ∧ (dCode c = 2 → dKind c = 0) ∧ dEnd c < ((k + 1 : Nat) : Int) ∧ (dEnd c = -1 → dCode c = 0) := fun d1 d2 d3 i c hc => by
      rcases back hc with ⟨_, rfl⟩ | ⟨_, hc⟩
      · exact ⟨fun z1 z2 => d1 z2 z1, d2, d3, show (k : Int) < ((k + 1 : Nat) : Int) by omega, fun z => absurd (show (k : Int) = -1 from z) (by omega)⟩
      · obtain ⟨y1, y2, y3, y4, y5⟩ := h.cd i c hc
        exact ⟨y1, y2, y3, by omega, y5⟩
    have zG : ∀ y, fG y c0 = 0 := fun y => if_neg (fun q => by have := q.1; omega)
    have zU : ∀ y, fU y c0 = 0 := fun y => if_neg (fun q => by have := q.2.1; omega)
    have zGt : fGt c0 = 0 := if_neg (fun q => by omega)
    have zUt : fUt c0 = 0 := if_neg (fun q => by have := q.2; omega)
    have gp : x.code ≠ 4 → ∀ (i : Nat) c, q'.calls[i]? = some c → dCode c = 4 → ∃ (j : Nat) (a : DCl), q'.calls[j]? = some a ∧ dKind a = 0 ∧ dCode a = 2 ∧ dArg a = dVal c ∧ dEnd a < dEnd c := fun hx i c hc h4 => by
      rcases back hc with ⟨_, rfl⟩ | ⟨_, hc⟩
      · exact absurd h4 hx
      · obtain ⟨j, a, z1, z2, z3, z4⟩ := h.gp i c hc h4
        exact ⟨j, a, keep z1 (by omega), z2, z3, z4⟩
    have gp2 : (x.code = 4 → x.value ∈ vs q) → ∀ (i : Nat) c, q'.calls[i]? = some c → dCode c = 4 → ∃ (j : Nat) (a : DCl), q'.calls[j]? = some a ∧ dKind a = 0 ∧ dCode a = 2 ∧ dArg a = dVal c ∧ dEnd a < dEnd c := fun hx i c hc h4 => by
      rcases back hc with ⟨_, rfl⟩ | ⟨_, hc⟩
      · obtain ⟨j, a, z1, z2, z3, z4⟩ := h.put (hx h4)
        exact ⟨j, a, keep z1 (by omega), z2, z3, z4, (h.cd j a z1).2.2.2.1⟩
      · obtain ⟨j, a, z1, z2, z3, z4⟩ := h.gp i c hc h4
        exact ⟨j, a, keep z1 (by omega), z2, z3, z4⟩
    cases ve with
    | same e z =>
      obtain ⟨z1, z2, z3, z4⟩ := z xp
      refine ⟨cd (fun _ => z3) (fun _ => z1) (fun z => absurd z z2), fun y => ?_, ?_, by rw [e]; exact h.ord, fun i c hc cw h4 => ?_, fun i j a b ha hb w1 w2 d1 d2 => ?_, gp z3, vv⟩
      · rw [sum, sum, e, zG, zU, show fG y (endCall c0 (k : Int) x.code x.value) = 0 from if_neg (fun q => z3 q.1), show fU y (endCall c0 (k : Int) x.code x.value) = 0 from if_neg (fun q => z2 q.2.1)]
        have := h.cnt y; omega
      · rw [sum, sum, e, zGt, zUt, show fGt (endCall c0 (k : Int) x.code x.value) = 0 from if_neg z3, show fUt (endCall c0 (k : Int) x.code x.value) = 0 from if_neg (fun q => z2 q.2)]
        have := h.tot; omega
      · rw [e]
        rcases back hc with ⟨_, rfl⟩ | ⟨_, hc⟩
        · exact absurd h4 z3
        · exact h.st1 i c hc cw h4
      · rcases back ha with ⟨_, rfl⟩ | ⟨_, ha⟩
        · exact absurd d1 z3
        · rcases back hb with ⟨_, rfl⟩ | ⟨_, hb⟩
          · exact absurd d2 z3
          · exact h.st2 i j a b ha hb w1 w2 d1 d2
    | push w0 ko xp' co va e =>
      subst w0
      have k0 : dKind c0 = 0 := by omega
      have ev : (q.act 0).1.v = dArg c0 := h.vv c0 hr ko r1
      have x4 : x.code ≠ 4 := by rw [co]; decide
      have below : ∀ (j : Nat) (a : DCl), q.calls[j]? = some a → dKind a = 0 → dCode a = 2 → dArg a < dArg c0 := fun j a ha ka da => by
        have ja : j ≠ (q.act 0).2.toNat := fun z => by
          subst z; rw [r1] at ha; cases ha; omega
        rcases Nat.lt_or_gt_of_ne ja with lt | gt
        · exact hi.arg_lt lt ha r1 ka k0
        · have := (hi.seq _ j c0 a gt r1 ha (by rw [r2, kind_own hi ha ka]; rfl)).1
          exact absurd r3 this
      refine ⟨cd (fun _ => x4) (fun _ => va) (fun _ => k0), fun y => ?_, ?_, ?_, fun i c hc cw h4 => ?_, fun i j a b ha hb w1 w2 d1 d2 => ?_, gp x4, vv⟩
      · rw [sum, sum, e, zG, zU, show fG y (endCall c0 (k : Int) x.code x.value) = 0 from if_neg (fun q => x4 q.1), List.count_append, ev]
        have := h.cnt y
        have e3 : fU y (endCall c0 (k : Int) x.code x.value) = ([dArg c0].count y : Int) := by
          rw [List.count_singleton]
          unfold fU
          by_cases z : dArg c0 = y
          · rw [if_pos ⟨k0, co, z⟩, if_pos (by simpa using z)]; rfl
          · rw [if_neg (fun q => z q.2.2), if_neg (by simpa using z)]; rfl
        omega
      · rw [sum, sum, e, zGt, zUt, show fGt (endCall c0 (k : Int) x.code x.value) = 0 from if_neg x4, show fUt (endCall c0 (k : Int) x.code x.value) = 1 from if_pos ⟨k0, co⟩, List.length_append]
        have := h.tot
        simp; omega
      · rw [e, ev, List.pairwise_append]
        refine ⟨h.ord, by simp, fun a ha b hb => ?_⟩
        rw [List.mem_singleton.1 hb]
        obtain ⟨j, c, z1, z2, z3, z4⟩ := h.put ha
        rw [← z4]
        exact below j c z1 z2 z3
      · rw [e, ev]
        intro y hy
        rcases back hc with ⟨_, rfl⟩ | ⟨_, hc⟩
        · exact absurd h4 x4
        · rcases List.mem_append.1 hy with hy | hy
          · exact h.st1 i c hc cw h4 y hy
          · rw [List.mem_singleton.1 hy]
            obtain ⟨j, a, z1, z2, z3, z4, _⟩ := h.gp i c hc h4
            rw [← z4]
            exact below j a z1 z2 z3
      · rcases back ha with ⟨_, rfl⟩ | ⟨_, ha⟩
        · exact absurd d1 x4
        · rcases back hb with ⟨_, rfl⟩ | ⟨_, hb⟩
          · exact absurd d2 x4
          · exact h.st2 i j a b ha hb w1 w2 d1 d2
    | pop w0 ko xp' co e =>
      subst w0
      have k0 : dKind c0 ≠ 0 := by omega
      have w00 : dWho (endCall c0 (k : Int) x.code x.value) = 0 := r2
      refine ⟨cd (fun z => absurd z k0) (fun z => absurd co z) (fun z => by omega), fun y => ?_, ?_, ?_, fun i c hc cw h4 y hy => ?_, fun i j a b ha hb w1 w2 d1 d2 => ?_, gp2 (fun _ => by rw [e]; simp), vv⟩
      · rw [sum, sum, zG, zU, show fU y (endCall c0 (k : Int) x.code x.value) = 0 from if_neg (fun q => k0 q.1)]
        have h1 := h.cnt y
        rw [e, List.count_append] at h1
        have e3 : fG y (endCall c0 (k : Int) x.code x.value) = ([x.value].count y : Int) := by
          rw [List.count_singleton]
          unfold fG
          by_cases z : x.value = y
          · rw [if_pos ⟨co, z⟩, if_pos (by simpa using z)]; rfl
          · rw [if_neg (fun q => z q.2), if_neg (by simpa using z)]; rfl
        omega
      · rw [sum, sum, zGt, zUt, show fGt (endCall c0 (k : Int) x.code x.value) = 1 from if_pos co, show fUt (endCall c0 (k : Int) x.code x.value) = 0 from if_neg (fun q => k0 q.1)]
        have h1 := h.tot
        rw [e, List.length_append] at h1
        simp at h1; omega
      · have h1 := h.ord
        rw [e, List.pairwise_append] at h1
        exact h1.1
      · rcases back hc with ⟨_, rfl⟩ | ⟨_, hc⟩
        · exact absurd w00 cw
        · exact h.st1 i c hc cw h4 y (by rw [e]; exact List.mem_append_left _ hy)
      · rcases back ha with ⟨_, rfl⟩ | ⟨_, ha⟩
        · exact absurd w00 w1
        · rcases back hb with ⟨_, rfl⟩ | ⟨_, hb⟩
          · exact absurd w00 w2
          · exact h.st2 i j a b ha hb w1 w2 d1 d2
    | steal w0 ko xp' co e =>
      have k0 : dKind c0 ≠ 0 := by omega
      have hord := h.ord
      rw [e, List.pairwise_cons] at hord
      refine ⟨cd (fun z => absurd z k0) (fun z => absurd co z) (fun z => by omega), fun y => ?_, ?_, hord.2, fun i c hc cw h4 y hy => ?_, fun i j a b ha hb w1 w2 d1 d2 hab => ?_, gp2 (fun _ => by rw [e]; simp), vv⟩
      · rw [sum, sum, zG, zU, show fU y (endCall c0 (k : Int) x.code x.value) = 0 from if_neg (fun q => k0 q.1)]
        have h1 := h.cnt y
        rw [e, List.count_cons] at h1
        have e3 : fG y (endCall c0 (k : Int) x.code x.value) = ((if (x.value == y) = true then 1 else 0 : Nat) : Int) := by
          unfold fG
          by_cases z : x.value = y
          · rw [if_pos ⟨co, z⟩, if_pos (by simpa using z)]; rfl
          · rw [if_neg (fun q => z q.2), if_neg (by simpa using z)]; rfl
        omega
      · rw [sum, sum, zGt, zUt, show fGt (endCall c0 (k : Int) x.code x.value) = 1 from if_pos co, show fUt (endCall c0 (k : Int) x.code x.value) = 0 from if_neg (fun q => k0 q.1)]
        have h1 := h.tot
        rw [e, List.length_cons] at h1
        omega
      · rcases back hc with ⟨_, rfl⟩ | ⟨_, hc⟩
        · exact hord.1 y hy
        · exact h.st1 i c hc cw h4 y (by rw [e]; exact List.mem_cons_of_mem _ hy)
      · rcases back ha with ⟨_, rfl⟩ | ⟨_, ha⟩
        · rcases back hb with ⟨_, rfl⟩ | ⟨_, hb⟩
          · exact absurd hab (Int.lt_irrefl _)
          · have := (h.cd j b hb).2.2.2.1
            have : (k : Int) < dEnd b := hab
            omega
        · rcases back hb with ⟨_, rfl⟩ | ⟨_, hb⟩
          · exact h.st1 i a ha w1 d1 _ (by rw [e]; exact List.mem_cons_self ..)
          · exact h.st2 i j a b ha hb w1 w2 d1 d2 hab
  · have eg := r.on xp
    have ec : (q.go (k : Int) w).calls = q.calls := by rw [eg]
    have ea : ∀ j, (q.go (k : Int) w).act j = if j = w then (x, (q.act w).2) else q.act j := fun j => by
      rw [eg]
      exact act_set (p := { q with m := m' }) (x := (x, (q.act w).2)) (j := j) hw
    generalize q.go (k : Int) w = q' at *
    have e : vs q' = vs q := by
      cases ve with
      | same e _ => exact e
      | push _ _ p => exact absurd p xp
      | pop _ _ p => exact absurd p xp
      | steal _ _ p => exact absurd p xp
    refine ⟨fun i c hc => ?_, fun y => by rw [ec, e]; exact h.cnt y, by rw [ec, e]; exact h.tot, by rw [e]; exact h.ord, fun i c hc => ?_, fun i j a b ha hb => ?_, fun i c hc h4 => ?_, fun c g1 g2 g3 => ?_⟩
    · rw [ec] at hc
      obtain ⟨y1, y2, y3, y4, y5⟩ := h.cd i c hc
      exact ⟨y1, y2, y3, by omega, y5⟩
    · rw [ec] at hc; rw [e]; exact h.st1 i c hc
    · rw [ec] at ha hb; exact h.st2 i j a b ha hb
    · rw [ec] at hc; rw [ec]; exact h.gp i c hc h4
    · rw [ea] at g1 g2 g3 ⊢
      rw [ec] at g3
      by_cases z : 0 = w
      · subst z
        rw [if_pos rfl] at g1 g2 g3 ⊢
        show x.v = _
        rw [sm.2.2.2]
        exact h.vv c g1 (by rw [← sm.1]; exact g2) g3
      · rw [if_neg z] at g1 g2 g3 ⊢
        exact h.vv c g1 g2 g3

theorem ps0_vi {low most thieves : Int} {todos : List DTd} (hc : CapE low most) (ht : 0 ≤ thieves) : VI 0 (ps0 low most todos thieves) := by
  have hv : vs (ps0 low most todos thieves) = [] := by
    have pi := ps0_pi (todos := todos) hc ht
    have p0 : ((ps0 low most todos thieves).act 0).1.pc = 0 := by
      have e : (ps0 low most todos thieves).act 0 = (DOp.zero, (-1 : Int)) := by
        show (List.replicate (1 + thieves).toNat (DOp.zero, (-1 : Int)))[0]?.getD (DOp.zero, -1) = _
        rw [List.getElem?_replicate]
        split <;> rfl
      rw [e]; rfl
    have h1 := pi.dg.t0
    have h2 := pi.dg.bn
    rw [Bl_up (lowp (.inl p0))] at h2
    unfold vs
    rw [handp (.inl p0)]
    unfold ctn
    rw [show (gt (ps0 low most todos thieves).m.cs 1 - gt (ps0 low most todos thieves).m.cs 0).toNat = 0 by omega]
    rfl
  have nc : ∀ {i : Nat} {c : DCl}, (ps0 low most todos thieves).calls[i]? = some c → False := fun {i c} h => (by cases h)
  exact ⟨fun i c h => (nc h).elim, fun x => by rw [hv]; rfl, by rw [hv]; rfl, by rw [hv]; exact .nil, fun i c h => (nc h).elim, fun i j a b h => (nc h).elim, fun i c h => (nc h).elim, fun c _ _ h => (nc h).elim⟩
theorem stN_vi {low most thieves : Int} {todos : List DTd} {picks : List Int} (hc : CapE low most) (ht : 0 ≤ thieves) (hp : picks.length ≤ 1048576) (htd : ∀ t ∈ numb todos, t.1 = 0 ∨ t.1 = 1) : ∀ {k : Nat}, k ≤ picks.length → VI k (stN low most (numb todos) thieves picks k) := by
  intro k
  induction k with
  | zero => intro _; exact ps0_vi hc ht
  | succ k ih =>
    intro hk
    obtain ⟨i1, i2, i3⟩ := stN_all' (todos := numb todos) (picks := picks) hc ht hp (k := k) (by omega)
    have ai := stN_ai (todos := numb todos) (picks := picks) hc ht hp htd (k := k) (by omega)
    have hwl : (whos thieves picks).length = picks.length := List.length_map ..
    have hW : (whos thieves picks)[k]? = some ((whos thieves picks)[k]'(by omega)) := by simp
    have hwm := whos_mem ht (List.getElem_mem (l := whos thieves picks) (n := k) (by omega))
    rw [stN_succ _ _ _ _ _ hW, PS.step_pre]
    have htp : ∀ t ∈ (stN low most (numb todos) thieves picks k).todos, t.1 = 0 ∨ t.1 = 1 := fun t ht => by
      obtain ⟨dn, d1, _⟩ := i2.tds
      exact htd t (by rw [d1]; exact List.mem_append_right _ ht)
    have up : ∀ {p : PS}, VI k p → VI (k + 1) p := fun {p} h => ⟨fun i c hc => by
      obtain ⟨y1, y2, y3, y4, y5⟩ := h.cd i c hc
      exact ⟨y1, y2, y3, by omega, y5⟩, h.cnt, h.tot, h.ord, h.st1, h.st2, h.gp, h.vv⟩
    generalize (whos thieves picks)[k]'(by omega) = w at *
    cases e : (stN low most (numb todos) thieves picks k).pre most (k : Int) w with
    | none => exact up (ih (by omega))
    | some q =>
      obtain ⟨h1, h2, h3, h4, h5, _⟩ := i1.pre (by rw [i3]; exact hwm) e
      obtain ⟨v, m', x, r⟩ := h1.go (by omega) (n := (k : Int)) (who := w) (by rw [h3, i3]; exact hwm) h4
      exact ((ih (by omega)).pre (by rw [i3]; exact hwm) i1 e).go (ai.pre (by rw [i3]; exact hwm) i1 htp e) (i2.pre (by rw [i3]; exact hwm) hW e) (by rw [h3, i3]; exact hwm) h5 h1 r

end Go.Mx
