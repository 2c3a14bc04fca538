/-
  A play of one deque: its calls and its picks.
-/
import Derived.Test.YtjkecefbbijajaaMxQl
set_option linter.unusedVariables false
set_option linter.unusedSimpArgs false
set_option linter.unusedSectionVars false
namespace Go.Mx

abbrev dWho (c : DCl) : Int := c.1
abbrev dKind (c : DCl) : Int := c.2.1
abbrev dArg (c : DCl) : Int := c.2.2.1
abbrev dBeg (c : DCl) : Int := c.2.2.2.1
abbrev dEnd (c : DCl) : Int := c.2.2.2.2.1
abbrev dCode (c : DCl) : Int := c.2.2.2.2.2.1
abbrev dVal (c : DCl) : Int := c.2.2.2.2.2.2.1

/-- What a call was asked. -/
def askOf (t : DTd) : Int × Int := (t.1, if t.1 = 0 then t.2.1 else 0)
def ownC (c : DCl) : Bool := decide (dWho c = 0)
structure HI (W : List Nat) (td0 : List DTd) (k : Nat) (p : PS) : Prop where
  kw : k ≤ W.length
  c1 : ∀ (i : Nat) c, p.calls[i]? = some c → ∃ w b : Nat, dWho c = (w : Int) ∧ dBeg c = (b : Int) ∧ b < k ∧ W[b]? = some w ∧ w < p.acts.length ∧ (w ≠ 0 → dKind c = 2)
  c2 : ∀ (i : Nat) c, p.calls[i]? = some c → (dEnd c = -1 ∧ dCode c = 0 ∧ dVal c = 0 ∧ (p.act (dWho c).toNat).2 = (i : Int)) ∨ (∃ e : Nat, dEnd c = (e : Int) ∧ dBeg c ≤ (e : Int) ∧ e < k ∧ W[e]? = some (dWho c).toNat ∧ dCode c ≠ 0 ∧ (p.act (dWho c).toNat).2 ≠ (i : Int))
  inc : ∀ (i j : Nat) a b, i < j → p.calls[i]? = some a → p.calls[j]? = some b → dBeg a < dBeg b
  seq : ∀ (i j : Nat) a b, i < j → p.calls[i]? = some a → p.calls[j]? = some b → dWho a = dWho b → dEnd a ≠ -1 ∧ dEnd a < dBeg b
  cov : ∀ (i m : Nat) c, p.calls[i]? = some c → (m : Int) < dBeg c → W[m]? = some (dWho c).toNat → ∃ (j : Nat) (a : DCl), j < i ∧ p.calls[j]? = some a ∧ dWho a = dWho c ∧ (m : Int) ≤ dEnd a
  idl : ∀ (m w : Nat), m < k → W[m]? = some w → (∃ (j : Nat) (a : DCl), p.calls[j]? = some a ∧ dWho a = (w : Int) ∧ dBeg a ≤ (m : Int) ∧ (dEnd a = -1 ∨ (m : Int) ≤ dEnd a)) ∨ (w = 0 ∧ p.todos = [] ∧ ∀ (j : Nat) a, p.calls[j]? = some a → dWho a = 0 → dEnd a ≠ -1 ∧ dEnd a < (m : Int))
  run : ∀ w, w < p.acts.length → 0 ≤ (p.act w).2 → ∃ c, p.calls[(p.act w).2.toNat]? = some c ∧ dWho c = (w : Int) ∧ dEnd c = -1
  tds : ∃ dn, td0 = dn ++ p.todos ∧ (p.calls.filter ownC).map (fun c => (dKind c, dArg c)) = dn.map askOf

theorem getElem?_snoc {α : Type} {l : List α} {x y : α} {i : Nat} (h : (l ++ [x])[i]? = some y) : (i < l.length ∧ l[i]? = some y) ∨ (i = l.length ∧ y = x) := by
  by_cases q : i < l.length
  · rw [List.getElem?_append_left q] at h; exact .inl ⟨q, h⟩
  · rw [List.getElem?_append_right (by omega)] at h
    have := (List.getElem?_eq_some_iff.1 h).1
    simp at this
    have e : i - l.length = 0 := by omega
    rw [e] at h
    exact .inr ⟨by omega, by simpa using h.symm⟩

/-- A call is taken up. -/
theorem HI.begin {W : List Nat} {td0 : List DTd} {k : Nat} {p : PS} (h : HI W td0 k p) {w : Nat} (hw : w < p.acts.length) (hWk : W[k]? = some w) (idle : (p.act w).2 < 0) {x : DOp} {kind arg : Int} {ts : List DTd} (hk : w ≠ 0 → kind = 2)
    (ht : (w ≠ 0 ∧ ts = p.todos) ∨ (w = 0 ∧ ∃ t, p.todos = t :: ts ∧ (kind, arg) = askOf t)) : HI W td0 (k + 1) { p with todos := ts, acts := p.acts.set w (x, (p.calls.length : Int)), calls := p.calls ++ [newCall (w : Int) kind arg (k : Int)] } := by
  obtain ⟨kw, c1, c2, inc, seq, cov, idl, run, tds⟩ := h
  have ea : ∀ j, ({ p with todos := ts, acts := p.acts.set w (x, (p.calls.length : Int)), calls := p.calls ++ [newCall (w : Int) kind arg (k : Int)] } : PS).act j = if j = w then (x, (p.calls.length : Int)) else p.act j := fun j => act_set (p := p) hw
  have el : (p.acts.set w (x, (p.calls.length : Int))).length = p.acts.length := List.length_set
  have hkW := (List.getElem?_eq_some_iff.1 hWk).1
  -- calls of w have ended
  have ended : ∀ (i : Nat) c, p.calls[i]? = some c → dWho c = (w : Int) → ∃ e : Nat, dEnd c = (e : Int) ∧ e < k := fun i c hc e => by
    rcases c2 i c hc with ⟨_, _, _, q⟩ | ⟨e, q1, _, q2, _⟩
    · rw [e, Int.toNat_natCast] at q; omega
    · exact ⟨e, q1, q2⟩
  refine ⟨hkW, fun i c hc => ?_, fun i c hc => ?_, fun i j a b hij ha hb => ?_, fun i j a b hij ha hb hab => ?_, fun i m c hc hm hW => ?_, fun m v hm hW => ?_, fun v hv hr => ?_, ?_⟩
  · rcases getElem?_snoc hc with ⟨_, hc⟩ | ⟨_, rfl⟩
    · obtain ⟨v, b, q1, q2, q3, q4, q5, q6⟩ := c1 i c hc
      exact ⟨v, b, q1, q2, by omega, q4, by rw [el]; exact q5, q6⟩
    · exact ⟨w, k, rfl, rfl, by omega, hWk, by rw [el]; exact hw, hk⟩
  · rw [ea]
    rcases getElem?_snoc hc with ⟨hi, hc⟩ | ⟨hi, rfl⟩
    · by_cases e : (dWho c).toNat = w
      · rw [if_pos e]
        obtain ⟨v, b, q1, q2, q3, q4, q5, q6⟩ := c1 i c hc
        obtain ⟨e', z1, z2⟩ := ended i c hc (by rw [q1] at e ⊢; omega)
        rcases c2 i c hc with ⟨z, _⟩ | ⟨e', y1, y2, y3, y4, y5, y6⟩
        · omega
        · exact .inr ⟨e', y1, y2, by omega, y4, y5, by show (p.calls.length : Int) ≠ _; omega⟩
      · rw [if_neg e]
        rcases c2 i c hc with q | ⟨e', y1, y2, y3, y4, y5, y6⟩
        · exact .inl q
        · exact .inr ⟨e', y1, y2, by omega, y4, y5, y6⟩
    · refine .inl ⟨rfl, rfl, rfl, ?_⟩
      have : (dWho (newCall (w : Int) kind arg (k : Int))).toNat = w := Int.toNat_natCast w
      rw [if_pos this, hi]
  · rcases getElem?_snoc hb with ⟨hj, hb⟩ | ⟨hj, rfl⟩
    · rcases getElem?_snoc ha with ⟨_, ha⟩ | ⟨hi, _⟩
      · exact inc i j a b hij ha hb
      · omega
    · rcases getElem?_snoc ha with ⟨_, ha⟩ | ⟨hi, _⟩
      · obtain ⟨v, b, q1, q2, q3, _⟩ := c1 i a ha
        show dBeg a < (k : Int)
        omega
      · omega
  · rcases getElem?_snoc hb with ⟨hj, hb⟩ | ⟨hj, rfl⟩
    · rcases getElem?_snoc ha with ⟨_, ha⟩ | ⟨hi, _⟩
      · exact seq i j a b hij ha hb hab
      · omega
    · rcases getElem?_snoc ha with ⟨_, ha⟩ | ⟨hi, _⟩
      · obtain ⟨e, z1, z2⟩ := ended i a ha hab
        show dEnd a ≠ -1 ∧ dEnd a < (k : Int)
        omega
      · omega
  · rcases getElem?_snoc hc with ⟨hi, hc⟩ | ⟨hi, rfl⟩
    · obtain ⟨j, a, z1, z2, z3, z4⟩ := cov i m c hc hm hW
      exact ⟨j, a, z1, by rw [List.getElem?_append_left (by omega)]; exact z2, z3, z4⟩
    · have hm : (m : Int) < (k : Int) := hm
      have hW : W[m]? = some w := by rw [hW]; show some ((w : Int)).toNat = _; rw [Int.toNat_natCast]
      rcases idl m w (by omega) hW with ⟨j, a, z1, z2, z3, z4⟩ | ⟨z1, z2, z3⟩
      · obtain ⟨e, y1, y2⟩ := ended j a z1 z2
        have hj := (List.getElem?_eq_some_iff.1 z1).1
        exact ⟨j, a, by omega, by rw [List.getElem?_append_left hj]; exact z1, z2, by omega⟩
      · rcases ht with ⟨ht, _⟩ | ⟨_, t, ht, _⟩
        · exact absurd z1 ht
        · rw [z2] at ht; cases ht
  · by_cases e : m = k
    · subst e
      rw [hWk] at hW; cases hW
      exact .inl ⟨p.calls.length, _, by rw [List.getElem?_append_right (Nat.le_refl _), Nat.sub_self]; rfl, rfl, Int.le_refl _, .inl rfl⟩
    · rcases idl m v (by omega) hW with ⟨j, a, z1, z2, z3, z4⟩ | ⟨z1, z2, z3⟩
      · have hj := (List.getElem?_eq_some_iff.1 z1).1
        exact .inl ⟨j, a, by rw [List.getElem?_append_left hj]; exact z1, z2, z3, z4⟩
      · rcases ht with ⟨ht, e2⟩ | ⟨_, t, ht, _⟩
        · refine .inr ⟨z1, by show ts = []; rw [e2]; exact z2, fun j a ha hz => ?_⟩
          rcases getElem?_snoc ha with ⟨_, ha⟩ | ⟨_, rfl⟩
          · exact z3 j a ha hz
          · exact absurd (show (w : Int) = 0 from hz) (by omega)
        · rw [z2] at ht; cases ht
  · rw [ea] at hr ⊢
    by_cases e : v = w
    · subst e
      rw [if_pos rfl]
      exact ⟨_, by show (p.calls ++ _)[((p.calls.length : Int)).toNat]? = _; rw [Int.toNat_natCast, List.getElem?_append_right (Nat.le_refl _), Nat.sub_self]; rfl, rfl, rfl⟩
    · rw [if_neg e] at hr ⊢
      obtain ⟨c, z1, z2, z3⟩ := run v (by rw [el] at hv; exact hv) hr
      exact ⟨c, by show (p.calls ++ _)[_]? = _; rw [List.getElem?_append_left (List.getElem?_eq_some_iff.1 z1).1]; exact z1, z2, z3⟩
  · obtain ⟨dn, d1, d2⟩ := tds
    show ∃ dn, td0 = dn ++ ts ∧ ((p.calls ++ [newCall (w : Int) kind arg (k : Int)]).filter ownC).map _ = _
    rcases ht with ⟨ht, e⟩ | ⟨e, t, ht, hk2⟩
    · refine ⟨dn, by rw [e]; exact d1, ?_⟩
      have : ownC (newCall (w : Int) kind arg (k : Int)) = false := decide_eq_false (by show ¬ (w : Int) = 0; omega)
      rw [List.filter_append, List.filter_cons_of_neg (by rw [this]; decide), List.filter_nil, List.append_nil]
      exact d2
    · refine ⟨dn ++ [t], by rw [d1, ht]; simp, ?_⟩
      have : ownC (newCall (w : Int) kind arg (k : Int)) = true := decide_eq_true (by show (w : Int) = 0; omega)
      rw [List.filter_append, List.filter_cons_of_pos this, List.filter_nil, List.map_append, List.map_append, d2]
      congr 1
      show [(kind, arg)] = [askOf t]
      rw [hk2]

/-- Time goes by. -/
theorem HI.later {W : List Nat} {td0 : List DTd} {k : Nat} {p : PS} (h : HI W td0 k p) {w : Nat} (hw : w < p.acts.length) (hWk : W[k]? = some w) (hb : 0 ≤ (p.act w).2 ∨ (w = 0 ∧ (p.act 0).2 < 0 ∧ p.todos = [])) : HI W td0 (k + 1) p := by
  obtain ⟨kw, c1, c2, inc, seq, cov, idl, run, tds⟩ := h
  refine ⟨(List.getElem?_eq_some_iff.1 hWk).1, fun i c hc => ?_, fun i c hc => ?_, inc, seq, cov, fun m v hm hW => ?_, run, tds⟩
  · obtain ⟨v, b, q1, q2, q3, q4, q5, q6⟩ := c1 i c hc
    exact ⟨v, b, q1, q2, by omega, q4, q5, q6⟩
  · rcases c2 i c hc with q | ⟨e', y1, y2, y3, y4, y5, y6⟩
    · exact .inl q
    · exact .inr ⟨e', y1, y2, by omega, y4, y5, y6⟩
  · by_cases e : m = k
    · subst e
      rw [hWk] at hW; cases hW
      rcases hb with hb | ⟨z, hb, hz⟩
      · obtain ⟨c, z1, z2, z3⟩ := run w hw hb
        obtain ⟨v, b, q1, q2, q3, _⟩ := c1 _ c z1
        exact .inl ⟨_, c, z1, z2, by omega, .inl z3⟩
      · subst z
        refine .inr ⟨rfl, hz, fun j a ha hz => ?_⟩
        rcases c2 j a ha with ⟨_, _, _, q⟩ | ⟨e', y1, y2, y3, _⟩
        · rw [hz] at q
          have q : (p.act 0).2 = (j : Int) := q
          omega
        · omega
    · exact idl m v (by omega) hW

theorem endAt_get {calls : List DCl} {i : Nat} {c0 : DCl} (h0 : calls[i]? = some c0) (n code v : Int) (j : Nat) (c : DCl) : (endAt calls i n code v)[j]? = some c ↔ (j = i ∧ c = endCall c0 n code v) ∨ (j ≠ i ∧ calls[j]? = some c) := by
  have hi := (List.getElem?_eq_some_iff.1 h0).1
  unfold endAt
  rw [h0]
  dsimp only
  by_cases e : j = i
  · subst e
    rw [List.getElem?_set_self hi]
    exact ⟨fun q => .inl ⟨rfl, by cases q; rfl⟩, fun q => q.elim (fun q => by rw [q.2]) (fun q => absurd rfl q.1)⟩
  · rw [List.getElem?_set_ne (fun q => e q.symm)]
    exact ⟨fun q => .inr ⟨e, q⟩, fun q => q.elim (fun q => absurd q.1 e) (fun q => q.2)⟩
theorem endAt_filter {calls : List DCl} {i : Nat} (n code v : Int) : ((endAt calls i n code v).filter ownC).map (fun c => (dKind c, dArg c)) = (calls.filter ownC).map (fun c => (dKind c, dArg c)) := by
  unfold endAt
  cases h0 : calls[i]? with
  | none => rfl
  | some c0 =>
    dsimp only
    have hi := (List.getElem?_eq_some_iff.1 h0).1
    obtain rfl : calls[i] = c0 := (List.getElem?_eq_some_iff.1 h0).2
    rw [List.set_eq_take_append_cons_drop, if_pos hi]
    have e : calls = calls.take i ++ calls[i] :: calls.drop (i + 1) := by simp
    conv => rhs; rw [e]
    rw [List.filter_append, List.filter_append, List.map_append, List.map_append]
    congr 1
    have : ownC (endCall calls[i] n code v) = ownC calls[i] := rfl
    cases z : ownC calls[i] with
    | true => rw [List.filter_cons_of_pos (by rw [this]; exact z), List.filter_cons_of_pos z]; rfl
    | false => rw [List.filter_cons_of_neg (by rw [this, z]; decide), List.filter_cons_of_neg (by rw [z]; decide)]
/-- A machine goes on. -/
theorem HI.on {W : List Nat} {td0 : List DTd} {k : Nat} {q : PS} (h : HI W td0 k q) {w : Nat} (hw : w < q.acts.length) {m' : AS} {x : DOp} : HI W td0 k { q with m := m', acts := q.acts.set w (x, (q.act w).2) } := by
  obtain ⟨kw, c1, c2, inc, seq, cov, idl, run, tds⟩ := h
  have ea : ∀ j, (({ q with m := m', acts := q.acts.set w (x, (q.act w).2) } : PS).act j).2 = (q.act j).2 := fun j => by
    have : ({ q with m := m', acts := q.acts.set w (x, (q.act w).2) } : PS).act j = if j = w then (x, (q.act w).2) else q.act j := act_set (p := q) hw
    rw [this]
    by_cases e : j = w
    · subst e; rw [if_pos rfl]
    · rw [if_neg e]
  have el : (q.acts.set w (x, (q.act w).2)).length = q.acts.length := List.length_set
  refine ⟨kw, fun i c hc => ?_, fun i c hc => ?_, inc, seq, cov, idl, fun v hv hr => ?_, tds⟩
  · obtain ⟨v, b, q1, q2, q3, q4, q5, q6⟩ := c1 i c hc
    exact ⟨v, b, q1, q2, q3, q4, by rw [el]; exact q5, q6⟩
  · rw [ea]; exact c2 i c hc
  · rw [ea] at hr ⊢; exact run v (by rw [el] at hv; exact hv) hr
/-- A call ends, with the pick that is the last so far. -/
theorem HI.off {W : List Nat} {td0 : List DTd} {k : Nat} {q : PS} (h : HI W td0 (k + 1) q) {w : Nat} (hw : w < q.acts.length) (hWk : W[k]? = some w) (hr : 0 ≤ (q.act w).2) {m' : AS} {x : DOp} {code v : Int} (hc0 : code ≠ 0) :
    HI W td0 (k + 1) { q with m := m', acts := q.acts.set w (x, -1), calls := endAt q.calls (q.act w).2.toNat (k : Int) code v } := by
  obtain ⟨kw, c1, c2, inc, seq, cov, idl, run, tds⟩ := h
  obtain ⟨c0, r1, r2, r3⟩ := run w hw hr
  have ea : ∀ j, ({ q with m := m', acts := q.acts.set w (x, -1), calls := endAt q.calls (q.act w).2.toNat (k : Int) code v } : PS).act j = if j = w then (x, -1) else q.act j := fun j => act_set (p := q) hw
  have el : (q.acts.set w (x, -1)).length = q.acts.length := List.length_set
  have get := fun j c => endAt_get r1 (k : Int) code v j c
  obtain ⟨v0, b0, d1, d2, d3, d4, d5, d6⟩ := c1 _ c0 r1
  obtain rfl : v0 = w := by omega
  -- any call, as it was
  have old : ∀ (j : Nat) c, (endAt q.calls (q.act v0).2.toNat (k : Int) code v)[j]? = some c → ∃ c', q.calls[j]? = some c' ∧ dWho c = dWho c' ∧ dBeg c = dBeg c' ∧ dKind c = dKind c' ∧ ((j = (q.act v0).2.toNat ∧ dEnd c' = -1 ∧ dEnd c = (k : Int)) ∨ (j ≠ (q.act v0).2.toNat ∧ c = c')) := fun j c hc => by
    rcases (get j c).1 hc with ⟨e1, e2⟩ | ⟨e1, e2⟩
    · subst e1; subst e2
      exact ⟨c0, r1, rfl, rfl, rfl, .inl ⟨rfl, r3, rfl⟩⟩
    · exact ⟨c, e2, rfl, rfl, rfl, .inr ⟨e1, rfl⟩⟩
  have new : ∀ (j : Nat) c', q.calls[j]? = some c' → ∃ c, (endAt q.calls (q.act v0).2.toNat (k : Int) code v)[j]? = some c ∧ dWho c = dWho c' ∧ dBeg c = dBeg c' ∧ ((dEnd c' = -1 ∧ dEnd c = (k : Int)) ∨ dEnd c = dEnd c') := fun j c' hc => by
    by_cases e : j = (q.act v0).2.toNat
    · subst e
      rw [r1] at hc; cases hc
      exact ⟨_, (get _ _).2 (.inl ⟨rfl, rfl⟩), rfl, rfl, .inl ⟨r3, rfl⟩⟩
    · exact ⟨c', (get j c').2 (.inr ⟨e, hc⟩), rfl, rfl, .inr rfl⟩
  refine ⟨kw, fun i c hc => ?_, fun i c hc => ?_, fun i j a b hij ha hb => ?_, fun i j a b hij ha hb hab => ?_, fun i m c hc hm hW => ?_, fun m u hm hW => ?_, fun u hu hr2 => ?_, ?_⟩
  · obtain ⟨c', e1, e2, e3, e4, _⟩ := old i c hc
    obtain ⟨u, b, q1, q2, q3, q4, q5, q6⟩ := c1 i c' e1
    exact ⟨u, b, by rw [e2]; exact q1, by rw [e3]; exact q2, q3, q4, by rw [el]; exact q5, fun z => by rw [e4]; exact q6 z⟩
  · rw [ea]
    rcases (get i c).1 hc with ⟨e1, e2⟩ | ⟨e1, e2⟩
    · subst e2
      have hwn : (dWho (endCall c0 (k : Int) code v)).toNat = v0 := by show (dWho c0).toNat = v0; rw [r2, Int.toNat_natCast]
      refine .inr ⟨k, rfl, ?_, by omega, by rw [hwn]; exact hWk, hc0, ?_⟩
      · show dBeg c0 ≤ (k : Int); omega
      · rw [if_pos hwn]; show (-1 : Int) ≠ _; omega
    · by_cases z : (dWho c).toNat = v0
      · rw [if_pos z]
        rcases c2 i c e2 with ⟨_, _, _, q4⟩ | ⟨e', y1, y2, y3, y4, y5, y6⟩
        · rw [z] at q4; omega
        · exact .inr ⟨e', y1, y2, y3, y4, y5, by show (-1 : Int) ≠ _; omega⟩
      · rw [if_neg z]; exact c2 i c e2
  · obtain ⟨a', a1, _, a3, _⟩ := old i a ha
    obtain ⟨b', b1, _, b3, _⟩ := old j b hb
    rw [a3, b3]; exact inc i j a' b' hij a1 b1
  · obtain ⟨a', a1, a2, a3, _, a5⟩ := old i a ha
    obtain ⟨b', b1, b2, b3, _, _⟩ := old j b hb
    have := seq i j a' b' hij a1 b1 (by rw [← a2, ← b2]; exact hab)
    rcases a5 with ⟨_, a5, _⟩ | ⟨_, a5⟩
    · exact absurd a5 this.1
    · rw [a5, b3]; exact this
  · obtain ⟨c', e1, e2, e3, e4, _⟩ := old i c hc
    obtain ⟨j, a, z1, z2, z3, z4⟩ := cov i m c' e1 (by rw [← e3]; exact hm) (by rw [← e2]; exact hW)
    obtain ⟨a', y1, y2, y3, y4⟩ := new j a z2
    refine ⟨j, a', z1, y1, by rw [y2, e2]; exact z3, ?_⟩
    rcases y4 with ⟨y4, _⟩ | y4
    · omega
    · rw [y4]; exact z4
  · rcases idl m u hm hW with ⟨j, a, z1, z2, z3, z4⟩ | ⟨z1, z2, z3⟩
    · obtain ⟨a', y1, y2, y3, y4⟩ := new j a z1
      refine .inl ⟨j, a', y1, by rw [y2]; exact z2, by rw [y3]; exact z3, ?_⟩
      rcases y4 with ⟨_, y4⟩ | y4
      · right; omega
      · rw [y4]; exact z4
    · refine .inr ⟨z1, z2, fun j a ha hz => ?_⟩
      obtain ⟨a', a1, a2, a3, _, a5⟩ := old j a ha
      have := z3 j a' a1 (by rw [← a2]; exact hz)
      rcases a5 with ⟨_, a5, _⟩ | ⟨_, a5⟩
      · exact absurd a5 this.1
      · rw [a5]; exact this
  · rw [ea] at hr2 ⊢
    by_cases e : u = v0
    · rw [if_pos e] at hr2; exact absurd (show (0 : Int) ≤ -1 from hr2) (by decide)
    · rw [if_neg e] at hr2 ⊢
      obtain ⟨c, z1, z2, z3⟩ := run u (by rw [el] at hu; exact hu) hr2
      refine ⟨c, (get _ c).2 (.inr ⟨fun z => e ?_, z1⟩), z2, z3⟩
      rw [z, r1] at z1
      cases z1
      omega
  · obtain ⟨dn, d1, d2⟩ := tds
    exact ⟨dn, d1, by show ((endAt _ _ _ _ _).filter ownC).map _ = _; rw [endAt_filter]; exact d2⟩

theorem code_ne {most : Int} {q : PS} {n : Int} {who : Nat} {v : Int} {m' : AS} {x : DOp} {N : Int} (r : GoR most q n who v m' x N) (p : x.pc = 0) : x.code ≠ 0 := by
  by_cases z : who = 0
  · cases r.own z with
    | same p' => exact absurd p p'
    | push _ _ c => omega
    | full _ _ c => omega
    | low _ p' => exact absurd p p'
    | got _ _ c => omega
    | empty _ _ c => omega
    | won _ p' => exact absurd p p'
  · cases r.thief z with
    | same p' => exact absurd p p'
    | empty _ _ c => omega
    | lost _ _ c => omega
    | got _ _ c => omega
    | look _ _ c => omega
theorem HI.pre {W : List Nat} {td0 : List DTd} {k : Nat} {p : PS} (h : HI W td0 k p) {w : Nat} (hw : w < p.acts.length) (hWk : W[k]? = some w) {most : Int} {q : PS} (e : p.pre most (k : Int) w = some q) : HI W td0 (k + 1) q := by
  cases pre_cases e with
  | on h1 eq => subst eq; exact h.later hw hWk (.inl h1)
  | push w0 h1 t ts et k1 eq =>
    subst w0; subst eq
    exact h.begin hw hWk h1 (fun z => absurd rfl z) (.inr ⟨rfl, t, et, by unfold askOf; rw [if_pos k1]⟩)
  | pop w0 h1 t ts et k1 eq =>
    subst w0; subst eq
    exact h.begin hw hWk h1 (fun z => absurd rfl z) (.inr ⟨rfl, t, et, by unfold askOf; rw [if_neg k1]⟩)
  | steal w0 h1 eq =>
    subst eq
    exact h.begin hw hWk h1 (fun _ => rfl) (.inl ⟨w0, rfl⟩)
theorem HI.go {W : List Nat} {td0 : List DTd} {k : Nat} {q : PS} (h : HI W td0 (k + 1) q) {w : Nat} (hw : w < q.acts.length) (hWk : W[k]? = some w) (hr : 0 ≤ (q.act w).2) {most v N : Int} {m' : AS} {x : DOp} (r : GoR most q (k : Int) w v m' x N) : HI W td0 (k + 1) (q.go (k : Int) w) := by
  by_cases p : x.pc = 0
  · rw [r.off p]; exact h.off hw hWk hr (code_ne r p)
  · rw [r.on p]; exact h.on hw
theorem HI.step {W : List Nat} {td0 : List DTd} {k : Nat} {p : PS} (h : HI W td0 k p) {w : Nat} (hw : w < p.acts.length) (hWk : W[k]? = some w) {most N : Int} (pi : PI most p N) (nn : N + 1 ≤ 1000000000) : HI W td0 (k + 1) (p.step most (k : Int) w) := by
  rw [PS.step_pre]
  cases e : p.pre most (k : Int) w with
  | none =>
    obtain ⟨e1, e2, e3⟩ := pre_none e
    exact h.later hw hWk (.inr ⟨e1, e2, e3⟩)
  | some q =>
    obtain ⟨h1, h2, h3, h4, h5, _⟩ := pi.pre hw e
    obtain ⟨v, m', x, r⟩ := h1.go nn (n := (k : Int)) (who := w) (by omega) h4
    exact (h.pre hw hWk e).go (by omega) hWk h5 r

/-! ### the states of a play, one behind the other -/
section
variable (low most : Int) (todos : List DTd) (thieves : Int) (picks : List Int)
def stN (k : Nat) : PS := (ps0 low most todos thieves).run most 0 ((whos thieves picks).take k)
theorem stN_all : stN low most todos thieves picks picks.length = playOf low most todos thieves picks := by
  unfold stN playOf
  rw [show picks.length = (whos thieves picks).length from (List.length_map ..).symm, List.take_length]
theorem stN_succ {k w : Nat} (h : (whos thieves picks)[k]? = some w) : stN low most todos thieves picks (k + 1) = (stN low most todos thieves picks k).step most (k : Int) w := by
  unfold stN
  have hk := (List.getElem?_eq_some_iff.1 h).1
  rw [List.take_add_one, h]
  show PS.run most _ 0 (_ ++ [w]) = _
  rw [PS.run_snoc, List.length_take, Nat.min_eq_left (by omega), Nat.zero_add]
variable {low most thieves} (hc : CapE low most) (ht : 0 ≤ thieves) (hp : picks.length ≤ 1048576)
include hc ht hp
theorem stN_all' : ∀ {k : Nat}, k ≤ picks.length → PI most (stN low most todos thieves picks k) (k : Int) ∧ HI (whos thieves picks) todos k (stN low most todos thieves picks k) ∧ (stN low most todos thieves picks k).acts.length = (1 + thieves).toNat := by
  intro k
  induction k with
  | zero =>
    intro _
    refine ⟨ps0_pi hc ht, ⟨Nat.zero_le _, fun i c h => ?_, fun i c h => ?_, fun i j a b _ h => ?_, fun i j a b _ h => ?_, fun i m c h => ?_, fun m w h => absurd h (Nat.not_lt_zero _), fun w hw h => ?_, ⟨[], rfl, rfl⟩⟩, List.length_replicate⟩
    · cases h
    · cases h
    · cases h
    · cases h
    · cases h
    · have pi := ps0_pi (todos := todos) (thieves := thieves) hc ht
      exfalso
      have : ((stN low most todos thieves picks 0).act w).2 = -1 := by
        show ((List.replicate (1 + thieves).toNat (DOp.zero, (-1 : Int)))[w]?.getD (DOp.zero, -1)).2 = _
        cases e : (List.replicate (1 + thieves).toNat (DOp.zero, (-1 : Int)))[w]? with
        | none => rfl
        | some y => have := (List.mem_replicate.1 (List.mem_of_getElem? e)).2; subst this; rfl
      omega
  | succ k ih =>
    intro hk
    obtain ⟨i1, i2, i3⟩ := ih (by omega)
    have hwl : (whos thieves picks).length = picks.length := List.length_map ..
    have hW : (whos thieves picks)[k]? = some ((whos thieves picks)[k]'(by omega)) := by simp
    have hwm := whos_mem ht (List.getElem_mem (l := whos thieves picks) (n := k) (by omega))
    rw [stN_succ _ _ _ _ _ hW]
    refine ⟨?_, ?_, step_len.trans i3⟩
    · have := i1.step (by omega) (n := (k : Int)) (who := (whos thieves picks)[k]'(by omega)) (by rw [i3]; exact hwm)
      exact this
    · exact i2.step (by rw [i3]; exact hwm) hW i1 (by omega)
end

end Go.Mx
