/-
  A play of one deque: its calls and its picks.
  A play of one deque: how many accesses a call makes.
  A play of one deque: the accesses of all calls.
-/
import Derived.Test.YtjkecefbbijajaaMxQl
set_option linter.unusedVariables false
set_option linter.unusedSimpArgs false
set_option linter.unusedSectionVars false
namespace Go.Mx

abbrev dWho (c : DCl) : Int := c.1
abbrev dKind (c : DCl) : Int := c.2.1
abbrev dArg (c : DCl) : Int := c.2.2.1
abbrev dBeg (c : DCl) : Int := c.2.2.2.1
abbrev dEnd (c : DCl) : Int := c.2.2.2.2.1
abbrev dCode (c : DCl) : Int := c.2.2.2.2.2.1
abbrev dVal (c : DCl) : Int := c.2.2.2.2.2.2.1

/-- What a call was asked. -/
def askOf (t : DTd) : Int × Int := (t.1, if t.1 = 0 then t.2.1 else 0)
def ownC (c : DCl) : Bool := decide (dWho c = 0)
structure HI (W : List Nat) (td0 : List DTd) (k : Nat) (p : PS) : Prop where
  kw : k ≤ W.length
  c1 : ∀ (i : Nat) c, p.calls[i]? = some c → ∃ w b : Nat, dWho c = (w : Int) ∧ dBeg c = (b : Int) ∧ b < k ∧ W[b]? = some w ∧ w < p.acts.length ∧ (w ≠ 0 → dKind c = 2)
  c2 : ∀ (i : Nat) c, p.calls[i]? = some c → (dEnd c = -1 ∧ dCode c = 0 ∧ dVal c = 0 ∧ (p.act (dWho c).toNat).2 = (i : Int)) ∨ (∃ e : Nat, dEnd c = (e : Int) ∧ dBeg c ≤ (e : Int) ∧ e < k ∧ W[e]? = some (dWho c).toNat ∧ dCode c ≠ 0 ∧ (p.act (dWho c).toNat).2 ≠ (i : Int))
  inc : ∀ (i j : Nat) a b, i < j → p.calls[i]? = some a → p.calls[j]? = some b → dBeg a < dBeg b
  seq : ∀ (i j : Nat) a b, i < j → p.calls[i]? = some a → p.calls[j]? = some b → dWho a = dWho b → dEnd a ≠ -1 ∧ dEnd a < dBeg b
  cov : ∀ (i m : Nat) c, p.calls[i]? = some c → (m : Int) < dBeg c → W[m]? = some (dWho c).toNat → ∃ (j : Nat) (a : DCl), j < i ∧ p.calls[j]? = some a ∧ dWho a = dWho c ∧ (m : Int) ≤ dEnd a
  idl : ∀ (m w : Nat), m < k → W[m]? = some w → (∃ (j : Nat) (a : DCl), p.calls[j]? = some a ∧ dWho a = (w : Int) ∧ dBeg a ≤ (m : Int) ∧ (dEnd a = -1 ∨ (m : Int) ≤ dEnd a)) ∨ (w = 0 ∧ p.todos = [] ∧ ∀ (j : Nat) a, p.calls[j]? = some a → dWho a = 0 → dEnd a ≠ -1 ∧ dEnd a < (m : Int))
  run : ∀ w, w < p.acts.length → 0 ≤ (p.act w).2 → ∃ c, p.calls[(p.act w).2.toNat]? = some c ∧ dWho c = (w : Int) ∧ dEnd c = -1
  tds : ∃ dn, td0 = dn ++ p.todos ∧ (p.calls.filter ownC).map (fun c => (dKind c, dArg c)) = dn.map askOf

theorem getElem?_snoc {α : Type} {l : List α} {x y : α} {i : Nat} (h : (l ++ [x])[i]? = some y) : (i < l.length ∧ l[i]? = some y) ∨ (i = l.length ∧ y = x) := by
  by_cases q : i < l.length
  · rw [List.getElem?_append_left q] at h; exact .inl ⟨q, h⟩
  · rw [List.getElem?_append_right (by omega)] at h
    have := (List.getElem?_eq_some_iff.1 h).1
    simp at this
    have e : i - l.length = 0 := by omega
    rw [e] at h
    exact .inr ⟨by omega, by simpa using h.symm⟩

/-- A call is taken up. -/
theorem HI.begin {W : List Nat} {td0 : List DTd} {k : Nat} {p : PS} (h : HI W td0 k p) {w : Nat} (hw : w < p.acts.length) (hWk : W[k]? = some w) (idle : (p.act w).2 < 0) {x : DOp} {kind arg : Int} {ts : List DTd} (hk : w ≠ 0 → kind = 2)
    (ht : (w ≠ 0 ∧ ts = p.todos) ∨ (w = 0 ∧ ∃ t, p.todos = t :: ts ∧ (kind, arg) = askOf t)) : HI W td0 (k + 1) { p with todos := ts, acts := p.acts.set w (x, (p.calls.length : Int)), calls := p.calls ++ [newCall (w : Int) kind arg (k : Int)] } := by
  obtain ⟨kw, c1, c2, inc, seq, cov, idl, run, tds⟩ := h
  have ea : ∀ j, ({ p with todos := ts, acts := p.acts.set w (x, (p.calls.length : Int)), calls := p.calls ++ [newCall (w : Int) kind arg (k : Int)] } : PS).act j = if j = w then (x, (p.calls.length : Int)) else p.act j := fun j => act_set (p := p) hw
  have el : (p.acts.set w (x, (p.calls.length : Int))).length = p.acts.length := List.length_set
  have hkW := (List.getElem?_eq_some_iff.1 hWk).1
  -- calls of w have ended
  have ended : ∀ (i : Nat) c, p.calls[i]? = some c → dWho c = (w : Int) → ∃ e : Nat, dEnd c = (e : Int) ∧ e < k := fun i c hc e => by
    rcases c2 i c hc with ⟨_, _, _, q⟩ | ⟨e, q1, _, q2, _⟩
    · rw [e, Int.toNat_natCast] at q; omega
    · exact ⟨e, q1, q2⟩
  refine ⟨hkW, fun i c hc => ?_, fun i c hc => ?_, fun i j a b hij ha hb => ?_, fun i j a b hij ha hb hab => ?_, fun i m c hc hm hW => ?_, fun m v hm hW => ?_, fun v hv hr => ?_, ?_⟩
  · rcases getElem?_snoc hc with ⟨_, hc⟩ | ⟨_, rfl⟩
    · obtain ⟨v, b, q1, q2, q3, q4, q5, q6⟩ := c1 i c hc
      exact ⟨v, b, q1, q2, by omega, q4, by rw [el]; exact q5, q6⟩
    · exact ⟨w, k, rfl, rfl, by omega, hWk, by rw [el]; exact hw, hk⟩
  · rw [ea]
    rcases getElem?_snoc hc with ⟨hi, hc⟩ | ⟨hi, rfl⟩
    · by_cases e : (dWho c).toNat = w
      · rw [if_pos e]
        obtain ⟨v, b, q1, q2, q3, q4, q5, q6⟩ := c1 i c hc
        obtain ⟨e', z1, z2⟩ := ended i c hc (by rw [q1] at e ⊢; omega)
        rcases c2 i c hc with ⟨z, _⟩ | ⟨e', y1, y2, y3, y4, y5, y6⟩
        · omega
        · exact .inr ⟨e', y1, y2, by omega, y4, y5, by show (p.calls.length : Int) ≠ _; omega⟩
      · rw [if_neg e]
        rcases c2 i c hc with q | ⟨e', y1, y2, y3, y4, y5, y6⟩
        · exact .inl q
        · exact .inr ⟨e', y1, y2, by omega, y4, y5, y6⟩
    · refine .inl ⟨rfl, rfl, rfl, ?_⟩
      have : (dWho (newCall (w : Int) kind arg (k : Int))).toNat = w := Int.toNat_natCast w
      rw [if_pos this, hi]
  · rcases getElem?_snoc hb with ⟨hj, hb⟩ | ⟨hj, rfl⟩
    · rcases getElem?_snoc ha with ⟨_, ha⟩ | ⟨hi, _⟩
      · exact inc i j a b hij ha hb
      · omega
    · rcases getElem?_snoc ha with ⟨_, ha⟩ | ⟨hi, _⟩
      · obtain ⟨v, b, q1, q2, q3, _⟩ := c1 i a ha
        show dBeg a < (k : Int)
        omega
      · omega
  · rcases getElem?_snoc hb with ⟨hj, hb⟩ | ⟨hj, rfl⟩
    · rcases getElem?_snoc ha with ⟨_, ha⟩ | ⟨hi, _⟩
      · exact seq i j a b hij ha hb hab
      · omega
    · rcases getElem?_snoc ha with ⟨_, ha⟩ | ⟨hi, _⟩
      · obtain ⟨e, z1, z2⟩ := ended i a ha hab
        show dEnd a ≠ -1 ∧ dEnd a < (k : Int)
        omega
      · omega
  · rcases getElem?_snoc hc with ⟨hi, hc⟩ | ⟨hi, rfl⟩
    · obtain ⟨j, a, z1, z2, z3, z4⟩ := cov i m c hc hm hW
      exact ⟨j, a, z1, by rw [List.getElem?_append_left (by omega)]; exact z2, z3, z4⟩
    · have hm : (m : Int) < (k : Int) := hm
      have hW : W[m]? = some w := by rw [hW]; show some ((w : Int)).toNat = _; rw [Int.toNat_natCast]
      rcases idl m w (by omega) hW with ⟨j, a, z1, z2, z3, z4⟩ | ⟨z1, z2, z3⟩
      · obtain ⟨e, y1, y2⟩ := ended j a z1 z2
        have hj := (List.getElem?_eq_some_iff.1 z1).1
        exact ⟨j, a, by omega, by rw [List.getElem?_append_left hj]; exact z1, z2, by omega⟩
      · rcases ht with ⟨ht, _⟩ | ⟨_, t, ht, _⟩
        · exact absurd z1 ht
        · rw [z2] at ht; cases ht
  · by_cases e : m = k
    · subst e
      rw [hWk] at hW; cases hW
      exact .inl ⟨p.calls.length, _, by rw [List.getElem?_append_right (Nat.le_refl _), Nat.sub_self]; rfl, rfl, Int.le_refl _, .inl rfl⟩
    · rcases idl m v (by omega) hW with ⟨j, a, z1, z2, z3, z4⟩ | ⟨z1, z2, z3⟩
      · have hj := (List.getElem?_eq_some_iff.1 z1).1
        exact .inl ⟨j, a, by rw [List.getElem?_append_left hj]; exact z1, z2, z3, z4⟩
      · rcases ht with ⟨ht, e2⟩ | ⟨_, t, ht, _⟩
        · refine .inr ⟨z1, by show ts = []; rw [e2]; exact z2, fun j a ha hz => ?_⟩
          rcases getElem?_snoc ha with ⟨_, ha⟩ | ⟨_, rfl⟩
          · exact z3 j a ha hz
          · exact absurd (show (w : Int) = 0 from hz) (by omega)
        · rw [z2] at ht; cases ht
  · rw [ea] at hr ⊢
    by_cases e : v = w
    · subst e
      rw [if_pos rfl]
      exact ⟨_, by show (p.calls ++ _)[((p.calls.length : Int)).toNat]? = _; rw [Int.toNat_natCast, List.getElem?_append_right (Nat.le_refl _), Nat.sub_self]; rfl, rfl, rfl⟩
    · rw [if_neg e] at hr ⊢
      obtain ⟨c, z1, z2, z3⟩ := run v (by rw [el] at hv; exact hv) hr
      exact ⟨c, by show (p.calls ++ _)[_]? = _; rw [List.getElem?_append_left (List.getElem?_eq_some_iff.1 z1).1]; exact z1, z2, z3⟩
  · obtain ⟨dn, d1, d2⟩ := tds
    show ∃ dn, td0 = dn ++ ts ∧ ((p.calls ++ [newCall (w : Int) kind arg (k : Int)]).filter ownC).map _ = _
    rcases ht with ⟨ht, e⟩ | ⟨e, t, ht, hk2⟩
    · refine ⟨dn, by rw [e]; exact d1, ?_⟩
      have : ownC (newCall (w : Int) kind arg (k : Int)) = false := decide_eq_false (by show ¬ (w : Int) = 0; omega)
      rw [List.filter_append, List.filter_cons_of_neg (by rw [this]; decide), List.filter_nil, List.append_nil]
      exact d2
    · refine ⟨dn ++ [t], by rw [d1, ht]; simp, ?_⟩
      have : ownC (newCall (w : Int) kind arg (k : Int)) = true := decide_eq_true (by show (w : Int) = 0; omega)
      rw [List.filter_append, List.filter_cons_of_pos this, List.filter_nil, List.map_append, List.map_append, d2]
      congr 1
      show [(kind, arg)] = [askOf t]
      rw [hk2]

/-- Time goes by. -/
theorem HI.later {W : List Nat} {td0 : List DTd} {k : Nat} {p : PS} (h : HI W td0 k p) {w : Nat} (hw : w < p.acts.length) (hWk : W[k]? = some w) (hb : 0 ≤ (p.act w).2 ∨ (w = 0 ∧ (p.act 0).2 < 0 ∧ p.todos = [])) : HI W td0 (k + 1) p := by
  obtain ⟨kw, c1, c2, inc, seq, cov, idl, run, tds⟩ := h
  refine ⟨(List.getElem?_eq_some_iff.1 hWk).1, fun i c hc => ?_, fun i c hc => ?_, inc, seq, cov, fun m v hm hW => ?_, run, tds⟩
  · obtain ⟨v, b, q1, q2, q3, q4, q5, q6⟩ := c1 i c hc
    exact ⟨v, b, q1, q2, by omega, q4, q5, q6⟩
  · rcases c2 i c hc with q | ⟨e', y1, y2, y3, y4, y5, y6⟩
    · exact .inl q
    · exact .inr ⟨e', y1, y2, by omega, y4, y5, y6⟩
  · by_cases e : m = k
    · subst e
      rw [hWk] at hW; cases hW
      rcases hb with hb | ⟨z, hb, hz⟩
      · obtain ⟨c, z1, z2, z3⟩ := run w hw hb
        obtain ⟨v, b, q1, q2, q3, _⟩ := c1 _ c z1
        exact .inl ⟨_, c, z1, z2, by omega, .inl z3⟩
      · subst z
        refine .inr ⟨rfl, hz, fun j a ha hz => ?_⟩
        rcases c2 j a ha with ⟨_, _, _, q⟩ | ⟨e', y1, y2, y3, _⟩
        · rw [hz] at q
          have q : (p.act 0).2 = (j : Int) := q
          omega
        · omega
    · exact idl m v (by omega) hW

theorem endAt_get {calls : List DCl} {i : Nat} {c0 : DCl} (h0 : calls[i]? = some c0) (n code v : Int) (j : Nat) (c : DCl) : (endAt calls i n code v)[j]? = some c ↔ (j = i ∧ c = endCall c0 n code v) ∨ (j ≠ i ∧ calls[j]? = some c) := by
  have hi := (List.getElem?_eq_some_iff.1 h0).1
  unfold endAt
  rw [h0]
  dsimp only
  by_cases e : j = i
  · subst e
    rw [List.getElem?_set_self hi]
    exact ⟨fun q => .inl ⟨rfl, by cases q; rfl⟩, fun q => q.elim (fun q => by rw [q.2]) (fun q => absurd rfl q.1)⟩
  · rw [List.getElem?_set_ne (fun q => e q.symm)]
    exact ⟨fun q => .inr ⟨e, q⟩, fun q => q.elim (fun q => absurd q.1 e) (fun q => q.2)⟩
theorem endAt_filter {calls : List DCl} {i : Nat} (n code v : Int) : ((endAt calls i n code v).filter ownC).map (fun c => (dKind c, dArg c)) = (calls.filter ownC).map (fun c => (dKind c, dArg c)) := by
  unfold endAt
  cases h0 : calls[i]? with
  | none => rfl
  | some c0 =>
    dsimp only
    have hi := (List.getElem?_eq_some_iff.1 h0).1
    obtain rfl : calls[i] = c0 := (List.getElem?_eq_some_iff.1 h0).2
    rw [List.set_eq_take_append_cons_drop, if_pos hi]
    have e : calls = calls.take i ++ calls[i] :: calls.drop (i + 1) := by simp
    conv => rhs; rw [e]
    rw [List.filter_append, List.filter_append, List.map_append, List.map_append]
    congr 1
    have : ownC (endCall calls[i] n code v) = ownC calls[i] := rfl
    cases z : ownC calls[i] with
    | true => rw [List.filter_cons_of_pos (by rw [this]; exact z), List.filter_cons_of_pos z]; rfl
    | false => rw [List.filter_cons_of_neg (by rw [this, z]; decide), List.filter_cons_of_neg (by rw [z]; decide)]
/-- A machine goes on. -/
theorem HI.on {W : List Nat} {td0 : List DTd} {k : Nat} {q : PS} (h : HI W td0 k q) {w : Nat} (hw : w < q.acts.length) {m' : AS} {x : DOp} : HI W td0 k { q with m := m', acts := q.acts.set w (x, (q.act w).2) } := by
  obtain ⟨kw, c1, c2, inc, seq, cov, idl, run, tds⟩ := h
  have ea : ∀ j, (({ q with m := m', acts := q.acts.set w (x, (q.act w).2) } : PS).act j).2 = (q.act j).2 := fun j => by
    have : ({ q with m := m', acts := q.acts.set w (x, (q.act w).2) } : PS).act j = if j = w then (x, (q.act w).2) else q.act j := act_set (p := q) hw
    rw [this]
    by_cases e : j = w
    · subst e; rw [if_pos rfl]
    · rw [if_neg e]
  have el : (q.acts.set w (x, (q.act w).2)).length = q.acts.length := List.length_set
  refine ⟨kw, fun i c hc => ?_, fun i c hc => ?_, inc, seq, cov, idl, fun v hv hr => ?_, tds⟩
  · obtain ⟨v, b, q1, q2, q3, q4, q5, q6⟩ := c1 i c hc
    exact ⟨v, b, q1, q2, q3, q4, by rw [el]; exact q5, q6⟩
  · rw [ea]; exact c2 i c hc
  · rw [ea] at hr ⊢; exact run v (by rw [el] at hv; exact hv) hr
/-- A call ends, with the pick that is the last so far. -/
theorem HI.off {W : List Nat} {td0 : List DTd} {k : Nat} {q : PS} (h : HI W td0 (k + 1) q) {w : Nat} (hw : w < q.acts.length) (hWk : W[k]? = some w) (hr : 0 ≤ (q.act w).2) {m' : AS} {x : DOp} {code v : Int} (hc0 : code ≠ 0) :
    HI W td0 (k + 1) { q with m := m', acts := q.acts.set w (x, -1), calls := endAt q.calls (q.act w).2.toNat (k : Int) code v } := by
  obtain ⟨kw, c1, c2, inc, seq, cov, idl, run, tds⟩ := h
  obtain ⟨c0, r1, r2, r3⟩ := run w hw hr
  have ea : ∀ j, ({ q with m := m', acts := q.acts.set w (x, -1), calls := endAt q.calls (q.act w).2.toNat (k : Int) code v } : PS).act j = if j = w then (x, -1) else q.act j := fun j => act_set (p := q) hw
  have el : (q.acts.set w (x, -1)).length = q.acts.length := List.length_set
  have get := fun j c => endAt_get r1 (k : Int) code v j c
  obtain ⟨v0, b0, d1, d2, d3, d4, d5, d6⟩ := c1 _ c0 r1
  obtain rfl : v0 = w := by omega
  -- any call, as it was
  have old : ∀ (j : Nat) c, (endAt q.calls (q.act v0).2.toNat (k : Int) code v)[j]? = some c → ∃ c', q.calls[j]? = some c' ∧ dWho c = dWho c' ∧ dBeg c = dBeg c' ∧ dKind c = dKind c' ∧ ((j = (q.act v0).2.toNat ∧ dEnd c' = -1 ∧ dEnd c = (k : Int)) ∨ (j ≠ (q.act v0).2.toNat ∧ c = c')) := fun j c hc => by
    rcases (get j c).1 hc with ⟨e1, e2⟩ | ⟨e1, e2⟩
    · subst e1; subst e2
      exact ⟨c0, r1, rfl, rfl, rfl, .inl ⟨rfl, r3, rfl⟩⟩
    · exact ⟨c, e2, rfl, rfl, rfl, .inr ⟨e1, rfl⟩⟩
  have new : ∀ (j : Nat) c', q.calls[j]? = some c' → ∃ c, (endAt q.calls (q.act v0).2.toNat (k : Int) code v)[j]? = some c ∧ dWho c = dWho c' ∧ dBeg c = dBeg c' ∧ ((dEnd c' = -1 ∧ dEnd c = (k : Int)) ∨ dEnd c = dEnd c') := fun j c' hc => by
    by_cases e : j = (q.act v0).2.toNat
    · subst e
      rw [r1] at hc; cases hc
      exact ⟨_, (get _ _).2 (.inl ⟨rfl, rfl⟩), rfl, rfl, .inl ⟨r3, rfl⟩⟩
    · exact ⟨c', (get j c').2 (.inr ⟨e, hc⟩), rfl, rfl, .inr rfl⟩
  refine ⟨kw, fun i c hc => ?_, fun i c hc => ?_, fun i j a b hij ha hb => ?_, fun i j a b hij ha hb hab => ?_, fun i m c hc hm hW => ?_, fun m u hm hW => ?_, fun u hu hr2 => ?_, ?_⟩
  · obtain ⟨c', e1, e2, e3, e4, _⟩ := old i c hc
    obtain ⟨u, b, q1, q2, q3, q4, q5, q6⟩ := c1 i c' e1
    exact ⟨u, b, by rw [e2]; exact q1, by rw [e3]; exact q2, q3, q4, by rw [el]; exact q5, fun z => by rw [e4]; exact q6 z⟩
  · rw [ea]
    rcases (get i c).1 hc with ⟨e1, e2⟩ | ⟨e1, e2⟩
    · subst e2
      have hwn : (dWho (endCall c0 (k : Int) code v)).toNat = v0 := by show (dWho c0).toNat = v0; rw [r2, Int.toNat_natCast]
      refine .inr ⟨k, rfl, ?_, by omega, by rw [hwn]; exact hWk, hc0, ?_⟩
      · show dBeg c0 ≤ (k : Int); omega
      · rw [if_pos hwn]; show (-1 : Int) ≠ _; omega
    · by_cases z : (dWho c).toNat = v0
      · rw [if_pos z]
        rcases c2 i c e2 with ⟨_, _, _, q4⟩ | ⟨e', y1, y2, y3, y4, y5, y6⟩
        · rw [z] at q4; omega
        · exact .inr ⟨e', y1, y2, y3, y4, y5, by show (-1 : Int) ≠ _; omega⟩
      · rw [if_neg z]; exact c2 i c e2
  · obtain ⟨a', a1, _, a3, _⟩ := old i a ha
    obtain ⟨b', b1, _, b3, _⟩ := old j b hb
    rw [a3, b3]; exact inc i j a' b' hij a1 b1
  · obtain ⟨a', a1, a2, a3, _, a5⟩ := old i a ha
    obtain ⟨b', b1, b2, b3, _, _⟩ := old j b hb
    have := seq i j a' b' hij a1 b1 (by rw [← a2, ← b2]; exact hab)
    rcases a5 with ⟨_, a5, _⟩ | ⟨_, a5⟩
    · exact absurd a5 this.1
    · rw [a5, b3]; exact this
  · obtain ⟨c', e1, e2, e3, e4, _⟩ := old i c hc
    obtain ⟨j, a, z1, z2, z3, z4⟩ := cov i m c' e1 (by rw [← e3]; exact hm) (by rw [← e2]; exact hW)
    obtain ⟨a', y1, y2, y3, y4⟩ := new j a z2
    refine ⟨j, a', z1, y1, by rw [y2, e2]; exact z3, ?_⟩
    rcases y4 with ⟨y4, _⟩ | y4
    · omega
    · rw [y4]; exact z4
  · rcases idl m u hm hW with ⟨j, a, z1, z2, z3, z4⟩ | ⟨z1, z2, z3⟩
    · obtain ⟨a', y1, y2, y3, y4⟩ := new j a z1
      refine .inl ⟨j, a', y1, by rw [y2]; exact z2, by rw [y3]; exact z3, ?_⟩
      rcases y4 with ⟨_, y4⟩ | y4
      · right; omega
      · rw [y4]; exact z4
    · refine .inr ⟨z1, z2, fun j a ha hz => ?_⟩
      obtain ⟨a', a1, a2, a3, _, a5⟩ := old j a ha
      have := z3 j a' a1 (by rw [← a2]; exact hz)
      rcases a5 with ⟨_, a5, _⟩ | ⟨_, a5⟩
      · exact absurd a5 this.1
      · rw [a5]; exact this
  · rw [ea] at hr2 ⊢
    by_cases e : u = v0
    · rw [if_pos e] at hr2; exact absurd (show (0 : Int) ≤ -1 from hr2) (by decide)
    · rw [if_neg e] at hr2 ⊢
      obtain ⟨c, z1, z2, z3⟩ := run u (by rw [el] at hu; exact hu) hr2
      refine ⟨c, (get _ c).2 (.inr ⟨fun z => e ?_, z1⟩), z2, z3⟩
      rw [z, r1] at z1
      cases z1
      omega
  · obtain ⟨dn, d1, d2⟩ := tds
    exact ⟨dn, d1, by show ((endAt _ _ _ _ _).filter ownC).map _ = _; rw [endAt_filter]; exact d2⟩

theorem code_ne {most : Int} {q : PS} {n : Int} {who : Nat} {v : Int} {m' : AS} {x : DOp} {N : Int} (r : GoR most q n who v m' x N) (p : x.pc = 0) : x.code ≠ 0 := by
  by_cases z : who = 0
  · cases r.own z with
    | same p' => exact absurd p p'
    | push _ _ c => omega
    | full _ _ c => omega
    | low _ p' => exact absurd p p'
    | got _ _ c => omega
    | empty _ _ c => omega
    | won _ p' => exact absurd p p'
  · cases r.thief z with
    | same p' => exact absurd p p'
    | empty _ _ c => omega
    | lost _ _ c => omega
    | got _ _ c => omega
    | look _ _ c => omega
theorem HI.pre {W : List Nat} {td0 : List DTd} {k : Nat} {p : PS} (h : HI W td0 k p) {w : Nat} (hw : w < p.acts.length) (hWk : W[k]? = some w) {most : Int} {q : PS} (e : p.pre most (k : Int) w = some q) : HI W td0 (k + 1) q := by
  cases pre_cases e with
  | on h1 eq => subst eq; exact h.later hw hWk (.inl h1)
  | push w0 h1 t ts et k1 eq =>
    subst w0; subst eq
    exact h.begin hw hWk h1 (fun z => absurd rfl z) (.inr ⟨rfl, t, et, by unfold askOf; rw [if_pos k1]⟩)
  | pop w0 h1 t ts et k1 eq =>
    subst w0; subst eq
    exact h.begin hw hWk h1 (fun z => absurd rfl z) (.inr ⟨rfl, t, et, by unfold askOf; rw [if_neg k1]⟩)
  | steal w0 h1 eq =>
    subst eq
    exact h.begin hw hWk h1 (fun _ => rfl) (.inl ⟨w0, rfl⟩)
theorem HI.go {W : List Nat} {td0 : List DTd} {k : Nat} {q : PS} (h : HI W td0 (k + 1) q) {w : Nat} (hw : w < q.acts.length) (hWk : W[k]? = some w) (hr : 0 ≤ (q.act w).2) {most v N : Int} {m' : AS} {x : DOp} (r : GoR most q (k : Int) w v m' x N) : HI W td0 (k + 1) (q.go (k : Int) w) := by
  by_cases p : x.pc = 0
  · rw [r.off p]; exact h.off hw hWk hr (code_ne r p)
  · rw [r.on p]; exact h.on hw
theorem HI.step {W : List Nat} {td0 : List DTd} {k : Nat} {p : PS} (h : HI W td0 k p) {w : Nat} (hw : w < p.acts.length) (hWk : W[k]? = some w) {most N : Int} (pi : PI most p N) (nn : N + 1 ≤ 1000000000) : HI W td0 (k + 1) (p.step most (k : Int) w) := by
  rw [PS.step_pre]
  cases e : p.pre most (k : Int) w with
  | none =>
    obtain ⟨e1, e2, e3⟩ := pre_none e
    exact h.later hw hWk (.inr ⟨e1, e2, e3⟩)
  | some q =>
    obtain ⟨h1, h2, h3, h4, h5, _⟩ := pi.pre hw e
    obtain ⟨v, m', x, r⟩ := h1.go nn (n := (k : Int)) (who := w) (by omega) h4
    exact (h.pre hw hWk e).go (by omega) hWk h5 r

/-! ### the states of a play, one behind the other -/
section
variable (low most : Int) (todos : List DTd) (thieves : Int) (picks : List Int)
def stN (k : Nat) : PS := (ps0 low most todos thieves).run most 0 ((whos thieves picks).take k)
theorem stN_all : stN low most todos thieves picks picks.length = playOf low most todos thieves picks := by
  unfold stN playOf
  rw [show picks.length = (whos thieves picks).length from (List.length_map ..).symm, List.take_length]
theorem stN_succ {k w : Nat} (h : (whos thieves picks)[k]? = some w) : stN low most todos thieves picks (k + 1) = (stN low most todos thieves picks k).step most (k : Int) w := by
  unfold stN
  have hk := (List.getElem?_eq_some_iff.1 h).1
  rw [List.take_add_one, h]
  show PS.run most _ 0 (_ ++ [w]) = _
  rw [PS.run_snoc, List.length_take, Nat.min_eq_left (by omega), Nat.zero_add]
variable {low most thieves} (hc : CapE low most) (ht : 0 ≤ thieves) (hp : picks.length ≤ 1048576)
include hc ht hp
theorem stN_all' : ∀ {k : Nat}, k ≤ picks.length → PI most (stN low most todos thieves picks k) (k : Int) ∧ HI (whos thieves picks) todos k (stN low most todos thieves picks k) ∧ (stN low most todos thieves picks k).acts.length = (1 + thieves).toNat := by
  intro k
  induction k with
  | zero =>
    intro _
    refine ⟨ps0_pi hc ht, ⟨Nat.zero_le _, fun i c h => ?_, fun i c h => ?_, fun i j a b _ h => ?_, fun i j a b _ h => ?_, fun i m c h => ?_, fun m w h => absurd h (Nat.not_lt_zero _), fun w hw h => ?_, ⟨[], rfl, rfl⟩⟩, List.length_replicate⟩
    · cases h
    · cases h
    · cases h
    · cases h
    · cases h
    · have pi := ps0_pi (todos := todos) (thieves := thieves) hc ht
      exfalso
      have : ((stN low most todos thieves picks 0).act w).2 = -1 := by
        show ((List.replicate (1 + thieves).toNat (DOp.zero, (-1 : Int)))[w]?.getD (DOp.zero, -1)).2 = _
        cases e : (List.replicate (1 + thieves).toNat (DOp.zero, (-1 : Int)))[w]? with
        | none => rfl
        | some y => have := (List.mem_replicate.1 (List.mem_of_getElem? e)).2; subst this; rfl
      omega
  | succ k ih =>
    intro hk
    obtain ⟨i1, i2, i3⟩ := ih (by omega)
    have hwl : (whos thieves picks).length = picks.length := List.length_map ..
    have hW : (whos thieves picks)[k]? = some ((whos thieves picks)[k]'(by omega)) := by simp
    have hwm := whos_mem ht (List.getElem_mem (l := whos thieves picks) (n := k) (by omega))
    rw [stN_succ _ _ _ _ _ hW]
    refine ⟨?_, ?_, step_len.trans i3⟩
    · have := i1.step (by omega) (n := (k : Int)) (who := (whos thieves picks)[k]'(by omega)) (by rw [i3]; exact hwm)
      exact this
    · exact i2.step (by rw [i3]; exact hwm) hW i1 (by omega)
end

end Go.Mx

namespace Go.Mx

/-- How many accesses a running machine has made. -/
def stepsOf (o : DOp) : Int :=
  if o.kind = 3 then (if o.pc = 1 then 1 else if o.pc = 3 then 2 else if o.pc = 4 then 3 else if o.pc = 12 then 4 else if o.pc = 13 then 5 else 0)
  else if o.kind = 2 then (if o.pc = 3 then 1 else if o.pc = 2 then 3 else if o.pc = 4 then 4 else if o.pc = 12 then 5 else if o.pc = 13 then 6 else if o.pc = 11 then (if o.i = 0 then 2 else if o.t = o.b then 7 else 4) else 0)
  else (if o.pc = 2 then 1 else if o.pc = 3 then 2 else if o.pc = 4 then 3 else if o.pc = 5 then 4 else if o.pc = 6 then 5 else if o.pc = 7 then 6 + 2 * (o.i - o.t) else if o.pc = 8 then 7 + 2 * (o.i - o.t) else if o.pc = 9 then 6 + 2 * (o.b - o.t)
    else if o.pc = 10 then (if o.c2 = 0 then 4 else 7 + 2 * (o.b - o.t)) else if o.pc = 11 then (if o.c2 = 0 then 5 else 8 + 2 * (o.b - o.t)) else 0)
/-- What a push knows of its growing. -/
def XI (most : Int) (o : DOp) : Prop := o.kind = 1 → (o.pc = 1 ∨ o.pc = 2 ∨ o.pc = 3 ∨ o.pc = 4 → o.c2 = 0) ∧ (o.pc = 10 ∨ o.pc = 11 → o.c2 = 0 ∨ (1 ≤ o.c2 ∧ 0 ≤ o.b - o.t ∧ o.b - o.t < most))
def bndOf (most kind : Int) : Int := if kind = 0 then 9 + 2 * most else if kind = 1 then 8 else 6

theorem th_steps {cs : List Int} {own o : DOp} (h : ThS cs own o) (k : o.kind = 3) (p : o.pc ≠ 0) (v : Int) : ((o.after v).pc ≠ 0 → stepsOf (o.after v) = stepsOf o + 1) ∧ ((o.after v).pc = 0 → stepsOf o + 1 ≤ 6) ∧ 0 ≤ stepsOf o ∧ stepsOf o ≤ 5 := by
  cases h with
  | idle p' => exact absurd p' p
  | st2 _ p =>
    have : o.after v = { o with t := v, pc := 1 } := by simp [DOp.after, DOp.stolen, k, p]
    rw [this]; simp [stepsOf, k, p]
  | st1 _ p =>
    by_cases q : v ≤ o.t
    · have : o.after v = DOp.over { o with b := v, pc := 3 } 5 0 := by simp [DOp.after, DOp.stolen, k, p, q]
      rw [this]; simp [stepsOf, k, p, DOp.over]
    · have : o.after v = { o with b := v, pc := 3 } := by simp [DOp.after, DOp.stolen, k, p, q]
      rw [this]; simp [stepsOf, k, p]
  | st3 _ p =>
    have : o.after v = { o with a := v, pc := 4 } := by simp [DOp.after, DOp.stolen, k, p]
    rw [this]; simp [stepsOf, k, p]
  | st4 _ p =>
    by_cases q : v < 1
    · have : o.after v = DOp.over { o with c := v, pc := 12 } 1 0 := by simp [DOp.after, DOp.stolen, k, p, q]
      rw [this]; simp [stepsOf, k, p, DOp.over]
    · have : o.after v = { o with c := v, pc := 12 } := by simp [DOp.after, DOp.stolen, k, p, q]
      rw [this]; simp [stepsOf, k, p]
  | st12 _ p =>
    have : o.after v = { o with x := v, pc := 13 } := by simp [DOp.after, DOp.stolen, k, p]
    rw [this]; simp [stepsOf, k, p]
  | st13 _ p =>
    by_cases q : v = 1
    · have : o.after v = o.over 4 o.x := by simp [DOp.after, DOp.stolen, k, p, q]
      rw [this]; simp [stepsOf, k, p, DOp.over]
    · have : o.after v = o.over 6 0 := by simp [DOp.after, DOp.stolen, k, p, q]
      rw [this]; simp [stepsOf, k, p, DOp.over]
  | lk2 k' => omega
  | lk1 k' => omega

theorem pop_steps {most : Int} {cs : List Int} {o : DOp} (h : OwnS most cs o) (k : o.kind = 2) (p : o.pc ≠ 0) (v : Int) : ((o.after v).pc ≠ 0 → stepsOf (o.after v) = stepsOf o + 1) ∧ ((o.after v).pc = 0 → stepsOf o + 1 ≤ 8) ∧ 0 ≤ stepsOf o ∧ stepsOf o ≤ 7 := by
  cases h with
  | idle p' => exact absurd p' p
  | pu1 k' | pu2 k' | pu3 k' | pu4 k' | pu5 k' | pu6 k' | pu7 k' | pu8 k' | pu9 k' | pu10 k' | pu11 k' => omega
  | po1 _ p i w =>
    have : o.after v = { o with b := w64 (v - 1), pc := 3 } := by simp [DOp.after, DOp.popped, k, p]
    rw [this]; simp [stepsOf, k, p]
  | po3 _ p i w =>
    have : o.after v = { o with a := v, pc := 11 } := by simp [DOp.after, DOp.popped, k, p]
    rw [this]; simp [stepsOf, k, p, i]
  | po11 _ p i w =>
    have : o.after v = { o with pc := 2 } := by simp [DOp.after, DOp.popped, k, p, i]
    rw [this]; simp [stepsOf, k, p, i]
  | po2 _ p i w =>
    by_cases q : o.b < v
    · have : o.after v = { o with t := v, i := 1, pc := 11 } := by simp [DOp.after, DOp.popped, k, p, q]
      rw [this]
      have : ¬ v = o.b := by omega
      simp [stepsOf, k, p, this]
    · have : o.after v = { o with t := v, i := 1, pc := 4 } := by simp [DOp.after, DOp.popped, k, p, q]
      rw [this]; simp [stepsOf, k, p]
  | po4 _ p i w =>
    by_cases q : v < 1
    · have : o.after v = DOp.over { o with c := v, pc := 12 } 1 0 := by simp [DOp.after, DOp.popped, k, p, q]
      rw [this]; simp [stepsOf, k, p, DOp.over]
    · have : o.after v = { o with c := v, pc := 12 } := by simp [DOp.after, DOp.popped, k, p, q]
      rw [this]; simp [stepsOf, k, p]
  | po12 _ p i w =>
    by_cases q : o.t < o.b
    · have : o.after v = DOp.over { o with x := v, pc := 13 } 4 v := by simp [DOp.after, DOp.popped, k, p, q]
      rw [this]; simp [stepsOf, k, p, DOp.over]
    · have : o.after v = { o with x := v, pc := 13 } := by simp [DOp.after, DOp.popped, k, p, q]
      rw [this]; simp [stepsOf, k, p]
  | po13 _ p i w b t0 t tb =>
    have : o.after v = { o with won := decide (v = 1), pc := 11 } := by simp [DOp.after, DOp.popped, k, p]
    rw [this]; simp [stepsOf, k, p, i, tb]
  | pe _ p i w b t =>
    have : o.after v = o.over 5 0 := by simp [DOp.after, DOp.popped, k, p, i, w]
    have : ¬ o.t = o.b := by omega
    rw [‹o.after v = _›]; simp [stepsOf, k, p, i, DOp.over, this]
  | pf _ p i b t =>
    cases w : o.won with
    | true =>
      have : o.after v = o.over 4 o.x := by simp [DOp.after, DOp.popped, k, p, i, w]
      rw [this]; simp [stepsOf, k, p, i, t, DOp.over]
    | false =>
      have : o.after v = o.over 5 0 := by simp [DOp.after, DOp.popped, k, p, i, w]
      rw [this]; simp [stepsOf, k, p, i, t, DOp.over]

/-- How far a push's own growing has come: b - t, or nothing. -/
def grown (o : DOp) : Prop := o.kind = 1 ∧ (o.pc = 10 ∨ o.pc = 11) ∧ o.c2 ≠ 0
instance (o : DOp) : Decidable (grown o) := by unfold grown; infer_instance
theorem push_steps {most : Int} {cs : List Int} {o : DOp} (h : OwnS most cs o) (xi : XI most o) (k : o.kind = 1) (p : o.pc ≠ 0) (hb0 : 0 ≤ gt cs 1) (hb : gt cs 1 ≤ 1000000000) (c1 : 1 ≤ cC cs) (v : Int) :
    XI most (o.after v) ∧ ((o.after v).pc ≠ 0 → stepsOf (o.after v) = stepsOf o + 1 ∧ (grown (o.after v) → grown o ∨ (o.pc = 9 ∧ (o.after v).b - (o.after v).t = cC cs ∧ o.c2 = if most < 2 * cC cs then most else 2 * cC cs)) ∧ (grown o → grown (o.after v) ∧ (o.after v).b - (o.after v).t = o.b - o.t)) ∧
    ((o.after v).pc = 0 → stepsOf o + 1 ≤ (if grown o then 9 + 2 * (o.b - o.t) else 9)) ∧ 0 ≤ stepsOf o ∧ stepsOf o ≤ 9 + 2 * gt cs 1 ∧ (o.pc = 9 → ¬ grown o) ∧ (grown o → 0 ≤ o.t ∧ o.b = gt cs 1) := by
  obtain ⟨x1, x2⟩ := xi k
  cases h with
  | idle p' => exact absurd p' p
  | po1 k' | po3 k' | po11 k' | po2 k' | po4 k' | po12 k' | po13 k' | pe k' | pf k' => omega
  | pu1 _ p =>
    have e : o.after v = { o with b := v, pc := 2 } := by simp [DOp.after, DOp.pushed, k, p]
    have c2 := x1 (by omega)
    rw [e]; simp [stepsOf, XI, grown, k, p, c2]; omega
  | pu2 _ p =>
    have e : o.after v = { o with t := v, pc := 3 } := by simp [DOp.after, DOp.pushed, k, p]
    have c2 := x1 (by omega)
    rw [e]; simp [stepsOf, XI, grown, k, p, c2]; omega
  | pu3 _ p =>
    have e : o.after v = { o with a := v, pc := 4 } := by simp [DOp.after, DOp.pushed, k, p]
    have c2 := x1 (by omega)
    rw [e]; simp [stepsOf, XI, grown, k, p, c2]; omega
  | pu4 _ p =>
    have c2 := x1 (by omega)
    by_cases q1 : v < 1
    · have e : o.after v = DOp.over { o with c := v, pc := 10 } 1 0 := by simp [DOp.after, DOp.pushed, k, p, q1]
      rw [e]; simp [stepsOf, XI, grown, k, p, c2, DOp.over]; omega
    · by_cases q2 : w64 (o.b - o.t) < v
      · have e : o.after v = { o with c := v, pc := 10 } := by simp only [DOp.after, DOp.pushed, k, p, if_true]; rw [if_neg (by decide), if_neg (by decide), if_neg (by decide), if_neg q1, if_pos q2]
        rw [e]; simp [stepsOf, XI, grown, k, p, c2]; omega
      · by_cases q3 : o.most ≤ v
        · have e : o.after v = DOp.over { o with c := v, pc := 10 } 3 0 := by simp only [DOp.after, DOp.pushed, k, p, if_true]; rw [if_neg (by decide), if_neg (by decide), if_neg (by decide), if_neg q1, if_neg q2, if_pos q3]
          rw [e]; simp [stepsOf, XI, grown, k, p, c2, DOp.over]; omega
        · have e : o.after v = { o with c := v, c2 := if o.most < w64 (2 * v) then o.most else w64 (2 * v), pc := 5 } := by simp only [DOp.after, DOp.pushed, k, p, if_true]; rw [if_neg (by decide), if_neg (by decide), if_neg (by decide), if_neg q1, if_neg q2, if_neg q3]
          rw [e]; simp [stepsOf, XI, grown, k, p, c2]; omega
  | pu5 _ p b t0 t f =>
    have e : o.after v = { o with a2 := v, pc := 6 } := by simp [DOp.after, DOp.pushed, k, p]
    rw [e]; simp [stepsOf, XI, grown, k, p]; omega
  | pu6 _ p b t0 t f =>
    have e : o.after v = { o with i := o.t, pc := 7 } := by simp [DOp.after, DOp.pushed, k, p]
    rw [e]; simp [stepsOf, XI, grown, k, p]; omega
  | pu7 _ p b t0 t f a c lt c2 a2 hd i1 i2 =>
    have e : o.after v = { o with x := v, pc := 8 } := by simp [DOp.after, DOp.pushed, k, p]
    rw [e]; simp [stepsOf, XI, grown, k, p]; omega
  | pu8 _ p b t0 t f a c lt c2 a2 hd i1 i2 =>
    have wi : w64 (o.i + 1) = o.i + 1 := by rw [w64_of] <;> omega
    by_cases q : o.i + 1 = o.b
    · have e : o.after v = { o with i := o.i + 1, pc := 9 } := by simp only [DOp.after, DOp.pushed, k, p, wi, if_true]; rw [if_neg (by decide), if_neg (by decide), if_neg (by decide), if_neg (by decide), if_neg (by decide), if_neg (by decide), if_neg (by decide), if_pos q]
      rw [e]; simp [stepsOf, XI, grown, k, p]; omega
    · have e : o.after v = { o with i := o.i + 1, pc := 7 } := by simp only [DOp.after, DOp.pushed, k, p, wi, if_true]; rw [if_neg (by decide), if_neg (by decide), if_neg (by decide), if_neg (by decide), if_neg (by decide), if_neg (by decide), if_neg (by decide), if_neg q]
      rw [e]; simp [stepsOf, XI, grown, k, p]; omega
  | pu9 _ p b t0 t f a c lt c2 a2 hd =>
    have e : o.after v = { o with a := o.a2, c := o.c2, pc := 10 } := by simp [DOp.after, DOp.pushed, k, p]
    have hc2 : 1 ≤ o.c2 := by rw [c2]; split <;> omega
    have hz : ¬ o.c2 = 0 := by omega
    rw [e]
    refine ⟨fun _ => ⟨fun q => absurd (show (10 : Int) = 1 ∨ (10 : Int) = 2 ∨ (10 : Int) = 3 ∨ (10 : Int) = 4 from q) (by decide), fun _ => .inr ⟨hc2, by show 0 ≤ o.b - o.t; omega, by show o.b - o.t < most; omega⟩⟩, fun _ => ⟨?_, fun _ => .inr ⟨p, f, c2⟩, fun q => ?_⟩, fun q => absurd (show (10 : Int) = 0 from q) (by decide), ?_, ?_, fun _ q => ?_, fun q => ?_⟩
    · simp [stepsOf, k, p, hz]; omega
    · obtain ⟨_, q, _⟩ := q; omega
    · simp [stepsOf, k, p]; omega
    · simp [stepsOf, k, p]; omega
    · obtain ⟨_, q, _⟩ := q; omega
    · obtain ⟨_, q, _⟩ := q; omega
  | pu10 _ p b t0 t f a c =>
    have e : o.after v = { o with pc := 11 } := by simp [DOp.after, DOp.pushed, k, p]
    have x2 := x2 (.inl p)
    rw [e]
    by_cases z : o.c2 = 0
    · simp [stepsOf, XI, grown, k, p, z]; omega
    · have x2 := x2.resolve_left z
      simp [stepsOf, XI, grown, k, p, z]; omega
  | pu11 _ p b t0 t f a c e' =>
    have e : o.after v = o.over 2 0 := by simp [DOp.after, DOp.pushed, k, p]
    have x2 := x2 (.inr p)
    rw [e]
    by_cases z : o.c2 = 0
    · simp [stepsOf, XI, grown, k, p, z, DOp.over]; omega
    · have x2 := x2.resolve_left z
      simp [stepsOf, XI, grown, k, p, z, DOp.over]; omega

end Go.Mx

namespace Go.Mx

/-- How many of the first k picks are w's. -/
def pk (W : List Nat) (w k : Nat) : Nat := ((W.take k).filter (fun x => decide (x = w))).length
theorem pk_succ {W : List Nat} {w k x : Nat} (h : W[k]? = some x) : pk W w (k + 1) = pk W w k + if x = w then 1 else 0 := by
  unfold pk
  rw [List.take_add_one, h]
  show ((W.take k ++ [x]).filter _).length = _
  rw [List.filter_append, List.length_append]
  congr 1
  by_cases e : x = w <;> simp [e]
theorem pk_zero (W : List Nat) (w : Nat) : pk W w 0 = 0 := rfl
theorem pk_mono {W : List Nat} {w : Nat} {a b : Nat} (h : a ≤ b) (hb : b ≤ W.length) : pk W w a ≤ pk W w b := by
  induction b with
  | zero => rw [show a = 0 from by omega]; exact Nat.le_refl _
  | succ b ih =>
    by_cases e : a = b + 1
    · rw [e]; exact Nat.le_refl _
    · have := ih (by omega) (by omega)
      rw [pk_succ (x := W[b]'(by omega)) (by simp)]
      omega

/-! ### sums over the calls -/
def wsum (f : DCl → Int) (l : List DCl) : Int := (l.map f).sum
theorem wsum_snoc (f : DCl → Int) (l : List DCl) (x : DCl) : wsum f (l ++ [x]) = wsum f l + f x := by
  unfold wsum
  rw [List.map_append, List.sum_append]
  simp
theorem wsum_set (f : DCl → Int) : ∀ {l : List DCl} {i : Nat} {x : DCl} (y : DCl), l[i]? = some x → wsum f (l.set i y) = wsum f l - f x + f y
  | [], i, x, y, h => by cases h
  | a :: l, 0, x, y, h => by
    cases h
    simp [wsum]; omega
  | a :: l, i + 1, x, y, h => by
    have := wsum_set f (l := l) (i := i) y h
    unfold wsum at this ⊢
    rw [List.set_cons_succ, List.map_cons, List.map_cons, List.sum_cons, List.sum_cons, this]; omega
theorem wsum_end (f : DCl → Int) {l : List DCl} {i : Nat} {x : DCl} (h : l[i]? = some x) (n code v : Int) : wsum f (endAt l i n code v) = wsum f l - f x + f (endCall x n code v) := by
  unfold endAt
  rw [h]
  exact wsum_set f _ h
theorem wsum_nn {f : DCl → Int} : ∀ {l : List DCl}, (∀ x ∈ l, 0 ≤ f x) → 0 ≤ wsum f l
  | [], _ => Int.le_refl _
  | a :: l, h => by
    have := wsum_nn (l := l) fun x hx => h x (by simp [hx])
    have := h a (by simp)
    unfold wsum at *
    rw [List.map_cons, List.sum_cons]; omega

/-- The picks that an ended call of the owner took; ended pushes, pops; ended calls of a thief. -/
def fO (W : List Nat) (c : DCl) : Int := if dWho c = 0 ∧ dEnd c ≠ -1 then (pk W 0 (dEnd c + 1).toNat : Int) - (pk W 0 (dBeg c).toNat : Int) else 0
def fP (c : DCl) : Int := if dWho c = 0 ∧ dKind c = 0 ∧ dEnd c ≠ -1 then 1 else 0
def fQ (c : DCl) : Int := if dWho c = 0 ∧ dKind c ≠ 0 ∧ dEnd c ≠ -1 then 1 else 0
def fT (w : Nat) (c : DCl) : Int := if dWho c = (w : Int) ∧ dEnd c ≠ -1 then 1 else 0
def stp (p : PS) (w : Nat) : Int := if 0 ≤ (p.act w).2 then stepsOf (p.act w).1 else 0

structure AI (W : List Nat) (most : Int) (k : Nat) (p : PS) : Prop where
  s0 : ∀ w, w < p.acts.length → 0 ≤ (p.act w).2 → ∃ c, p.calls[(p.act w).2.toNat]? = some c ∧ dWho c = (w : Int) ∧ dEnd c = -1 ∧ dKind c + 1 = (p.act w).1.kind ∧ (pk W w k : Int) = (pk W w (dBeg c).toNat : Int) + stepsOf (p.act w).1
  s2 : ∀ (i : Nat) c, p.calls[i]? = some c → dEnd c ≠ -1 → (pk W (dWho c).toNat (dEnd c + 1).toNat : Int) ≤ (pk W (dWho c).toNat (dBeg c).toNat : Int) + bndOf most (dKind c)
  s3 : ∀ w, w ≠ 0 → w < p.acts.length → (pk W w k : Int) ≤ 6 * wsum (fT w) p.calls + stp p w
  o1 : ∃ idl : Int, 0 ≤ idl ∧ (pk W 0 k : Int) = wsum (fO W) p.calls + stp p 0 + idl ∧ (0 < idl → p.todos = [] ∧ (p.act 0).2 < 0)
  xi : XI most (p.act 0).1
  a1 : Bl p.m.cs (p.act 0).1 ≤ wsum fP p.calls
  am : ∃ S : Int, 0 ≤ S ∧ S ≤ 2 * wsum fP p.calls ∧ wsum (fO W) p.calls ≤ 9 * wsum fP p.calls + 8 * wsum fQ p.calls + 2 * S ∧
    (if grown (p.act 0).1 then S ≤ (p.act 0).1.b - (p.act 0).1.t ∧ (cC p.m.cs < most → cC p.m.cs = 2 * ((p.act 0).1.b - (p.act 0).1.t)) else cC p.m.cs < most → S ≤ cC p.m.cs)

theorem stp_begin {k pc most v : Int} (h1 : 1 ≤ most) (h2 : most ≤ 4096) (h : (k = 1 ∨ k = 2) ∧ pc = 1 ∨ k = 3 ∧ pc = 2) : stepsOf (DOp.begin k pc 0 most v) = 0 := by
  rw [begin_eq h1 h2]
  rcases h with ⟨rfl | rfl, rfl⟩ | ⟨rfl, rfl⟩ <;> rfl

/-- A call is taken up. -/
theorem AI.begin {W : List Nat} {most : Int} {k : Nat} {p : PS} (h : AI W most k p) {w : Nat} (hw : w < p.acts.length) (idle : (p.act w).2 < 0) (pc0 : (p.act w).1.pc = 0) {x : DOp} {kind arg : Int} {ts : List DTd} (hts : w ≠ 0 → ts = p.todos) (htd : w = 0 → p.todos ≠ [])
    (hk : kind + 1 = x.kind) (hx : stepsOf x = 0) (hp : x.pc = 1 ∨ x.pc = 2) (hc : x.c2 = 0) (hw0 : w = 0 → x.pc = 1) : AI W most k { p with todos := ts, acts := p.acts.set w (x, (p.calls.length : Int)), calls := p.calls ++ [newCall (w : Int) kind arg (k : Int)] } := by
  obtain ⟨s0, s2, s3, o1, xi, a1, am⟩ := h
  have ea : ∀ j, ({ p with todos := ts, acts := p.acts.set w (x, (p.calls.length : Int)), calls := p.calls ++ [newCall (w : Int) kind arg (k : Int)] } : PS).act j = if j = w then (x, (p.calls.length : Int)) else p.act j := fun j => act_set (p := p) hw
  have el : (p.acts.set w (x, (p.calls.length : Int))).length = p.acts.length := List.length_set
  have w0 : ∀ f : DCl → Int, f (newCall (w : Int) kind arg (k : Int)) = 0 → wsum f (p.calls ++ [newCall (w : Int) kind arg (k : Int)]) = wsum f p.calls := fun f hf => by rw [wsum_snoc, hf, Int.add_zero]
  have eO := w0 (fO W) (if_neg (fun q => q.2 rfl))
  have eP := w0 fP (if_neg (fun q => q.2.2 rfl))
  have eQ := w0 fQ (if_neg (fun q => q.2.2 rfl))
  have eT : ∀ v, wsum (fT v) (p.calls ++ [newCall (w : Int) kind arg (k : Int)]) = wsum (fT v) p.calls := fun v => w0 (fT v) (if_neg (fun q => q.2 rfl))
  have st : ∀ v, stp { p with todos := ts, acts := p.acts.set w (x, (p.calls.length : Int)), calls := p.calls ++ [newCall (w : Int) kind arg (k : Int)] } v = stp p v := fun v => by
    unfold stp
    rw [ea]
    by_cases e : v = w
    · subst e
      rw [if_pos rfl]
      show (if 0 ≤ (p.calls.length : Int) then stepsOf x else 0) = if 0 ≤ (p.act v).2 then _ else 0
      rw [hx, if_neg (show ¬ 0 ≤ (p.act v).2 by omega)]; split <;> rfl
    · rw [if_neg e]
  have own : (if 0 = w then (x, (p.calls.length : Int)) else p.act 0).1 = if w = 0 then x else (p.act 0).1 := by
    by_cases e : w = 0
    · rw [if_pos e.symm, if_pos e]
    · rw [if_neg (fun q => e q.symm), if_neg e]
  have ng : w = 0 → ¬ grown x ∧ ¬ grown (p.act 0).1 ∧ Bl p.m.cs x = Bl p.m.cs (p.act 0).1 := fun e => by
    subst e
    have := hw0 rfl
    refine ⟨fun q => by obtain ⟨_, q, _⟩ := q; omega, fun q => by obtain ⟨_, q, _⟩ := q; omega, ?_⟩
    rw [Bl_up (lowp (.inl pc0)), Bl_up (lowp (.inr (.inl this)))]
  refine ⟨fun v hv hr => ?_, fun i c hc he => ?_, fun v hv0 hv => ?_, ?_, ?_, ?_, ?_⟩
  · rw [ea] at hr ⊢
    by_cases e : v = w
    · subst e
      rw [if_pos rfl]
      refine ⟨_, by show (p.calls ++ _)[((p.calls.length : Int)).toNat]? = _; rw [Int.toNat_natCast, List.getElem?_append_right (Nat.le_refl _), Nat.sub_self]; rfl, rfl, rfl, hk, ?_⟩
      show (pk W v k : Int) = (pk W v ((k : Int)).toNat : Int) + stepsOf x
      rw [hx, Int.toNat_natCast]; omega
    · rw [if_neg e] at hr ⊢
      obtain ⟨c, z1, z2⟩ := s0 v (by rw [el] at hv; exact hv) hr
      exact ⟨c, by show (p.calls ++ _)[_]? = _; rw [List.getElem?_append_left (List.getElem?_eq_some_iff.1 z1).1]; exact z1, z2⟩
  · rcases getElem?_snoc hc with ⟨_, hc⟩ | ⟨_, rfl⟩
    · exact s2 i c hc he
    · exact absurd rfl he
  · rw [st]
    show _ ≤ 6 * wsum (fT v) (p.calls ++ _) + _
    rw [eT]
    exact s3 v hv0 (by rw [el] at hv; exact hv)
  · obtain ⟨idl, i1, i2, i3⟩ := o1
    rw [st]
    show ∃ idl : Int, 0 ≤ idl ∧ _ = wsum (fO W) (p.calls ++ _) + _ + idl ∧ _
    rw [eO]
    refine ⟨idl, i1, i2, fun q => ?_⟩
    obtain ⟨j1, j2⟩ := i3 q
    have hw' : w ≠ 0 := fun e => htd e j1
    refine ⟨by show ts = []; rw [hts hw']; exact j1, ?_⟩
    rw [ea, if_neg (fun e => hw' e.symm)]; exact j2
  · rw [ea, own]
    by_cases e : w = 0
    · rw [if_pos e]
      exact fun _ => ⟨fun _ => hc, fun _ => .inl hc⟩
    · rw [if_neg e]; exact xi
  · rw [ea, own]
    show Bl p.m.cs _ ≤ wsum fP (p.calls ++ _)
    rw [eP]
    by_cases e : w = 0
    · rw [if_pos e, (ng e).2.2]; exact a1
    · rw [if_neg e]; exact a1
  · obtain ⟨S, m1, m2, m3, m4⟩ := am
    rw [ea, own]
    show ∃ S : Int, 0 ≤ S ∧ S ≤ 2 * wsum fP (p.calls ++ _) ∧ wsum (fO W) (p.calls ++ _) ≤ 9 * wsum fP (p.calls ++ _) + 8 * wsum fQ (p.calls ++ _) + 2 * S ∧ _
    rw [eP, eO, eQ]
    refine ⟨S, m1, m2, m3, ?_⟩
    by_cases e : w = 0
    · obtain ⟨n1, n2, _⟩ := ng e
      rw [if_neg n2] at m4
      rw [if_pos e, if_neg n1]; exact m4
    · rw [if_neg e]; exact m4

/-- A pick of an idle owner. -/
theorem AI.idle {W : List Nat} {most : Int} {k : Nat} {p : PS} (h : AI W most k p) (hWk : W[k]? = some 0) (h0 : (p.act 0).2 < 0) (ht : p.todos = []) : AI W most (k + 1) p := by
  obtain ⟨s0, s2, s3, o1, xi, a1, am⟩ := h
  have pn : ∀ w, w ≠ 0 → pk W w (k + 1) = pk W w k := fun w hw => by rw [pk_succ hWk, if_neg (fun e => hw e.symm)]; rfl
  refine ⟨fun v hv hr => ?_, s2, fun v hv0 hv => by rw [pn v hv0]; exact s3 v hv0 hv, ?_, xi, a1, am⟩
  · have hv0 : v ≠ 0 := fun e => by subst e; omega
    rw [pn v hv0]; exact s0 v hv hr
  · obtain ⟨idl, i1, i2, i3⟩ := o1
    refine ⟨idl + 1, by omega, ?_, fun _ => ⟨ht, h0⟩⟩
    rw [pk_succ hWk, if_pos rfl]; omega

theorem AI.go {W : List Nat} {td0 : List DTd} {most : Int} {k : Nat} {q : PS} (h : AI W most k q) (hi : HI W td0 (k + 1) q) {w : Nat} (hw : w < q.acts.length) (hWk : W[k]? = some w) (hr : 0 ≤ (q.act w).2) (pc : (q.act w).1.pc ≠ 0) {N : Int} (pi : PI most q N) (nn : N + 1 ≤ 1000000000)
    {v : Int} {m' : AS} {x : DOp} (r : GoR most q (k : Int) w v m' x N) : AI W most (k + 1) (q.go (k : Int) w) := by
  have s0' := h.s0
  obtain ⟨s0, s2, s3, o1, xi, a1, am⟩ := h
  obtain ⟨c0, r1, r2, r3, r4, r5⟩ := s0 w hw hr
  have ps := pk_succ (w := w) hWk
  rw [if_pos rfl] at ps
  have pn : ∀ u, u ≠ w → pk W u (k + 1) = pk W u k := fun u hu => by rw [pk_succ hWk, if_neg (fun e => hu e.symm)]; rfl
  have hx := r.ex
  have hst : (x.pc ≠ 0 → stepsOf x = stepsOf (q.act w).1 + 1) ∧ (x.pc = 0 → stepsOf (q.act w).1 + 1 ≤ bndOf most (dKind c0)) ∧ 0 ≤ stepsOf (q.act w).1 := by
    rw [hx]
    by_cases z : w = 0
    · subst z
      by_cases k1 : (q.act 0).1.kind = 1
      · have hb : 0 ≤ gt q.m.cs 1 ∧ gt q.m.cs 1 ≤ 1000000000 := by
          have h1 := pi.dg.bn
          have h2 := pi.dg.tb
          have h3 := pi.dg.t0
          rw [Bl_up (low1 k1)] at h1 h2
          omega
        obtain ⟨t1, t2, t3, t4, t5, t6⟩ := push_steps pi.os xi k1 pc hb.1 hb.2 pi.dg.c1 v
        refine ⟨fun z => (t2 z).1, fun z => ?_, t4⟩
        have := t3 z
        have hk0 : dKind c0 = 0 := by omega
        unfold bndOf
        rw [if_pos hk0]
        have hm : 1 ≤ most := by have := pi.dg.c1; have := pi.dg.cm; omega
        by_cases gr : grown (q.act 0).1
        · rw [if_pos gr] at this
          obtain ⟨_, gp, gc⟩ := gr
          have := ((xi k1).2 gp).resolve_left gc
          omega
        · rw [if_neg gr] at this; omega
      · have k2 : (q.act 0).1.kind = 2 := by
          cases pi.os with
          | idle p => exact absurd p pc
          | pu1 k' | pu2 k' | pu3 k' | pu4 k' | pu5 k' | pu6 k' | pu7 k' | pu8 k' | pu9 k' | pu10 k' | pu11 k' => exact absurd k' k1
          | po1 k' | po3 k' | po11 k' | po2 k' | po4 k' | po12 k' | po13 k' | pe k' | pf k' => exact k'
        obtain ⟨t1, t2, t3, t4⟩ := pop_steps pi.os k2 pc v
        refine ⟨t1, fun z => ?_, t3⟩
        have hk0 : dKind c0 = 1 := by omega
        unfold bndOf
        rw [if_neg (by omega), if_pos hk0]; exact t2 z
    · have k3 := pi.kind w (by omega) hw pc
      obtain ⟨t1, t2, t3, t4⟩ := th_steps (pi.th w (by omega) hw) k3 pc v
      refine ⟨t1, fun y => ?_, t3⟩
      unfold bndOf
      rw [if_neg (by omega), if_neg (by omega)]; exact t2 y
  obtain ⟨u1, u2, u3⟩ := hst
  -- what the owner's machine knows
  have hown : ∀ {own' : DOp} {cs' : List Int}, own' = (if w = 0 then x else (q.act 0).1) → cs' = m'.cs → XI most own' ∧ (∀ S : Int, 0 ≤ S → S ≤ 2 * wsum fP q.calls →
      (if grown (q.act 0).1 then S ≤ (q.act 0).1.b - (q.act 0).1.t ∧ (cC q.m.cs < most → cC q.m.cs = 2 * ((q.act 0).1.b - (q.act 0).1.t)) else cC q.m.cs < most → S ≤ cC q.m.cs) → own'.pc ≠ 0 ∨ w ≠ 0 →
      (if grown own' then S ≤ own'.b - own'.t ∧ (cC cs' < most → cC cs' = 2 * (own'.b - own'.t)) else cC cs' < most → S ≤ cC cs')) := by
    rintro own' cs' rfl rfl
    have hcc := r.cc
    by_cases z : w = 0
    · subst z
      rw [if_pos rfl]
      simp only [true_and] at hcc
      by_cases k1 : (q.act 0).1.kind = 1
      · have hb : 0 ≤ gt q.m.cs 1 ∧ gt q.m.cs 1 ≤ 1000000000 := by
          have h1 := pi.dg.bn
          have h2 := pi.dg.tb
          have h3 := pi.dg.t0
          rw [Bl_up (low1 k1)] at h1 h2
          omega
        obtain ⟨t1, t2, t3, t4, t5, t6, t7⟩ := push_steps pi.os xi k1 pc hb.1 hb.2 pi.dg.c1 v
        rw [← hx] at t1 t2
        refine ⟨t1, fun S S0 S1 S2 hpc => ?_⟩
        have hpc := hpc.resolve_right (fun n => n rfl)
        obtain ⟨t21, t22, t23⟩ := t2 hpc
        by_cases gx : grown x
        · rw [if_pos gx]
          rcases t22 gx with g0 | ⟨p9, g1, g2⟩
          · rw [if_pos g0] at S2
            obtain ⟨_, t24⟩ := t23 g0
            have : ¬ ((q.act 0).1.kind = 1 ∧ (q.act 0).1.pc = 9) := fun y => t6 y.2 g0
            rw [if_neg this] at hcc
            rw [hcc, t24]; exact S2
          · rw [if_neg (t6 p9)] at S2
            rw [if_pos ⟨k1, p9⟩] at hcc
            have lt : cC q.m.cs < most := by
              cases pi.os with
              | pu9 _ _ _ _ _ _ _ _ lt => exact lt
              | idle p => omega
              | pu1 _ p | pu2 _ p | pu3 _ p | pu4 _ p | pu5 _ p | pu6 _ p | pu7 _ p | pu8 _ p | pu10 _ p | pu11 _ p => omega
              | po1 k' | po3 k' | po11 k' | po2 k' | po4 k' | po12 k' | po13 k' | pe k' | pf k' => omega
            have := S2 lt
            rw [hcc, g1, g2]
            refine ⟨this, fun lt2 => ?_⟩
            by_cases y : most < 2 * cC q.m.cs
            · rw [if_pos y] at lt2; omega
            · rw [if_neg y]
        · rw [if_neg gx]
          have g0 : ¬ grown (q.act 0).1 := fun y => gx (t23 y).1
          rw [if_neg g0] at S2
          have : ¬ ((q.act 0).1.kind = 1 ∧ (q.act 0).1.pc = 9) := fun y => by
            apply gx
            obtain ⟨_, _⟩ := y
            cases pi.os with
            | pu9 _ p b t0 t f a c lt c2 =>
              have hc2 : 1 ≤ (q.act 0).1.c2 := by rw [c2]; have := pi.dg.c1; split <;> omega
              have : x = { (q.act 0).1 with a := (q.act 0).1.a2, c := (q.act 0).1.c2, pc := 10 } := by rw [hx]; simp [DOp.after, DOp.pushed, k1, p]
              rw [this]
              exact ⟨k1, .inl rfl, by show (q.act 0).1.c2 ≠ 0; omega⟩
            | idle p => omega
            | pu1 _ p | pu2 _ p | pu3 _ p | pu4 _ p | pu5 _ p | pu6 _ p | pu7 _ p | pu8 _ p | pu10 _ p | pu11 _ p => omega
            | po1 k' | po3 k' | po11 k' | po2 k' | po4 k' | po12 k' | po13 k' | pe k' | pf k' => omega
          rw [if_neg this] at hcc
          rw [hcc]; exact S2
      · have kx : x.kind ≠ 1 := by rw [hx, ((q.act 0).1.after_same v).1]; exact k1
        rw [if_neg (fun y => k1 y.1)] at hcc
        refine ⟨fun y => absurd y kx, fun S S0 S1 S2 hpc => ?_⟩
        rw [if_neg (fun y => kx y.1)]
        rw [if_neg (fun y => k1 y.1)] at S2
        rw [hcc]; exact S2
    · rw [if_neg z]
      rw [if_neg (fun y => z y.1)] at hcc
      exact ⟨xi, fun S S0 S1 S2 hpc => by rw [hcc]; exact S2⟩
  by_cases xp : x.pc = 0
  · -- the call ends
    rw [r.off xp]
    have hcl : (q.act w).2.toNat < q.calls.length := (List.getElem?_eq_some_iff.1 r1).1
    have ea : ∀ j, ({ q with m := m', acts := q.acts.set w (x, -1), calls := endAt q.calls (q.act w).2.toNat (k : Int) x.code x.value } : PS).act j = if j = w then (x, -1) else q.act j := fun j => act_set (p := q) hw
    have el : (q.acts.set w (x, -1)).length = q.acts.length := List.length_set
    have get := fun j c => endAt_get r1 (k : Int) x.code x.value j c
    have hwn : (dWho c0).toNat = w := by rw [r2, Int.toNat_natCast]
    have kne : ((k : Int) : Int) ≠ -1 := by omega
    have u2 := u2 xp
    have st : ∀ j, j ≠ w → stp { q with m := m', acts := q.acts.set w (x, -1), calls := endAt q.calls (q.act w).2.toNat (k : Int) x.code x.value } j = stp q j := fun j hj => by
      unfold stp; rw [ea, if_neg hj]
    have stw : stp { q with m := m', acts := q.acts.set w (x, -1), calls := endAt q.calls (q.act w).2.toNat (k : Int) x.code x.value } w = 0 := by
      unfold stp; rw [ea, if_pos rfl]; exact if_neg (show ¬ (0 : Int) ≤ -1 by decide)
    have stq : stp q w = stepsOf (q.act w).1 := if_pos hr
    have ek : ((k : Int) + 1).toNat = k + 1 := by omega
    have e0 : ∀ f : DCl → Int, f c0 = 0 → wsum f (endAt q.calls (q.act w).2.toNat (k : Int) x.code x.value) = wsum f q.calls + f (endCall c0 (k : Int) x.code x.value) := fun f hf => by rw [wsum_end f r1, hf]; omega
    have zO : fO W c0 = 0 := if_neg (fun y => y.2 r3)
    have zP : fP c0 = 0 := if_neg (fun y => y.2.2 r3)
    have zQ : fQ c0 = 0 := if_neg (fun y => y.2.2 r3)
    have zT : ∀ v, fT v c0 = 0 := fun v => if_neg (fun y => y.2 r3)
    have yO : fO W (endCall c0 (k : Int) x.code x.value) = if w = 0 then stepsOf (q.act w).1 + 1 else 0 := by
      unfold fO
      show (if dWho c0 = 0 ∧ (k : Int) ≠ -1 then (pk W 0 ((k : Int) + 1).toNat : Int) - (pk W 0 (dBeg c0).toNat : Int) else 0) = _
      rw [ek]
      by_cases z : w = 0
      · subst z
        rw [if_pos ⟨by rw [r2]; rfl, kne⟩, if_pos rfl]
        rw [ps]; omega
      · rw [if_neg (fun y => z (by rw [r2] at y; omega)), if_neg z]
    have yP : fP (endCall c0 (k : Int) x.code x.value) = if w = 0 ∧ dKind c0 = 0 then 1 else 0 := by
      unfold fP
      show (if dWho c0 = 0 ∧ dKind c0 = 0 ∧ (k : Int) ≠ -1 then (1 : Int) else 0) = _
      by_cases z : w = 0 ∧ dKind c0 = 0
      · rw [if_pos ⟨by rw [r2]; omega, z.2, kne⟩, if_pos z]
      · rw [if_neg (fun y => z ⟨by rw [r2] at y; omega, y.2.1⟩), if_neg z]
    have yQ : fQ (endCall c0 (k : Int) x.code x.value) = if w = 0 ∧ dKind c0 ≠ 0 then 1 else 0 := by
      unfold fQ
      show (if dWho c0 = 0 ∧ dKind c0 ≠ 0 ∧ (k : Int) ≠ -1 then (1 : Int) else 0) = _
      by_cases z : w = 0 ∧ dKind c0 ≠ 0
      · rw [if_pos ⟨by rw [r2]; omega, z.2, kne⟩, if_pos z]
      · rw [if_neg (fun y => z ⟨by rw [r2] at y; omega, y.2.1⟩), if_neg z]
    have yT : ∀ u : Nat, fT u (endCall c0 (k : Int) x.code x.value) = if u = w then 1 else 0 := fun u => by
      unfold fT
      show (if dWho c0 = (u : Int) ∧ (k : Int) ≠ -1 then (1 : Int) else 0) = _
      by_cases z : u = w
      · rw [if_pos ⟨by rw [r2, z], kne⟩, if_pos z]
      · rw [if_neg (fun y => z (by rw [r2] at y; omega)), if_neg z]
    have eO := e0 (fO W) zO
    have eP := e0 fP zP
    have eQ := e0 fQ zQ
    have eT := fun v => e0 (fT v) (zT v)
    rw [yO] at eO
    rw [yP] at eP
    rw [yQ] at eQ
    have own : (if 0 = w then (x, (-1 : Int)) else q.act 0).1 = if w = 0 then x else (q.act 0).1 := by
      by_cases e : w = 0
      · rw [if_pos e.symm, if_pos e]
      · rw [if_neg (fun y => e y.symm), if_neg e]
    refine ⟨fun u hu hru => ?_, fun i c hc he => ?_, fun u hu0 hu => ?_, ?_, ?_, ?_, ?_⟩
    · rw [ea] at hru ⊢
      by_cases e : u = w
      · rw [if_pos e] at hru; exact absurd (show (0 : Int) ≤ -1 from hru) (by decide)
      · rw [if_neg e] at hru ⊢
        obtain ⟨c, z1, z2, z3, z4, z5⟩ := s0 u (by rw [el] at hu; exact hu) hru
        refine ⟨c, (get _ c).2 (.inr ⟨fun z => e ?_, z1⟩), z2, z3, z4, by rw [pn u e]; exact z5⟩
        rw [z, r1] at z1; cases z1; omega
    · rcases (get i c).1 hc with ⟨_, e2⟩ | ⟨_, e2⟩
      · subst e2
        show (pk W (dWho c0).toNat ((k : Int) + 1).toNat : Int) ≤ (pk W (dWho c0).toNat (dBeg c0).toNat : Int) + bndOf most (dKind c0)
        rw [hwn, ek, ps]; omega
      · exact s2 i c e2 he
    · have hu : u < q.acts.length := by rw [el] at hu; exact hu
      have hs := s3 u hu0 hu
      show _ ≤ 6 * wsum (fT u) (endAt _ _ _ _ _) + _
      rw [eT u, yT u]
      by_cases e : u = w
      · subst e
        rw [if_pos rfl, stw, ps]
        rw [stq] at hs
        have : bndOf most (dKind c0) = 6 := by
          have := pi.kind u (by omega) hw pc
          unfold bndOf; rw [if_neg (by omega), if_neg (by omega)]
        omega
      · rw [if_neg e, st u e, pn u e]; omega
    · obtain ⟨idl, i1, i2, i3⟩ := o1
      show ∃ idl : Int, 0 ≤ idl ∧ _ = wsum (fO W) (endAt _ _ _ _ _) + _ + idl ∧ _
      rw [eO]
      by_cases z : w = 0
      · subst z
        rw [if_pos rfl, stw, ps]
        rw [stq] at i2
        refine ⟨idl, i1, by omega, fun y => ?_⟩
        have := (i3 y).2
        omega
      · rw [if_neg z, st 0 (fun y => z y.symm), pn 0 (fun y => z y.symm)]
        refine ⟨idl, i1, by omega, fun y => ?_⟩
        rw [ea, if_neg (fun y => z y.symm)]
        exact i3 y
    · rw [ea, own]; exact (hown rfl rfl).1
    · rw [ea, own]
      show Bl m'.cs _ ≤ wsum fP (endAt _ _ _ _ _)
      rw [eP]
      rcases r.bl with b | ⟨b1, b2, b3, b4⟩
      · have : (0 : Int) ≤ if w = 0 ∧ dKind c0 = 0 then 1 else 0 := by split <;> omega
        omega
      · subst b1
        have : dKind c0 = 0 := by omega
        rw [if_pos (show (0 : Nat) = 0 ∧ dKind c0 = 0 from ⟨rfl, this⟩)]; omega
    · obtain ⟨S, m1, m2, m3, m4⟩ := am
      rw [ea, own]
      show ∃ S : Int, 0 ≤ S ∧ S ≤ 2 * wsum fP (endAt _ _ _ _ _) ∧ wsum (fO W) (endAt _ _ _ _ _) ≤ 9 * wsum fP (endAt _ _ _ _ _) + 8 * wsum fQ (endAt _ _ _ _ _) + 2 * S ∧ _
      rw [eP, eO, eQ]
      by_cases z : w = 0
      · subst z
        rw [if_pos rfl, if_pos rfl]
        have gx : ¬ grown x := fun y => by obtain ⟨_, y, _⟩ := y; omega
        simp only [if_neg gx, true_and]
        by_cases k1 : (q.act 0).1.kind = 1
        · have hk0 : dKind c0 = 0 := by omega
          rw [if_pos hk0, if_neg (show ¬ dKind c0 ≠ 0 from fun y => y hk0)]
          have hb : 0 ≤ gt q.m.cs 1 ∧ gt q.m.cs 1 ≤ 1000000000 := by
            have h1 := pi.dg.bn
            have h2 := pi.dg.tb
            have h3 := pi.dg.t0
            rw [Bl_up (low1 k1)] at h1 h2
            omega
          obtain ⟨t1, t2, t3, t4, t5, t6, t7⟩ := push_steps pi.os xi k1 pc hb.1 hb.2 pi.dg.c1 v
          rw [← hx] at t3
          have t3 := t3 xp
          have hcc := r.cc
          simp only [true_and] at hcc
          by_cases g0 : grown (q.act 0).1
          · rw [if_pos g0] at m4 t3
            have n9 : ¬ ((q.act 0).1.kind = 1 ∧ (q.act 0).1.pc = 9) := fun y => t6 y.2 g0
            rw [if_neg n9] at hcc
            obtain ⟨t71, t72⟩ := t7 g0
            have hx2 := ((xi k1).2 g0.2.1).resolve_left g0.2.2
            rw [Bl_up (low1 k1)] at a1
            refine ⟨S + ((q.act 0).1.b - (q.act 0).1.t), by omega, by omega, by omega, fun lt => ?_⟩
            rw [hcc] at lt ⊢
            have := m4.2 lt
            omega
          · rw [if_neg g0] at m4 t3
            have n9 : ¬ ((q.act 0).1.kind = 1 ∧ (q.act 0).1.pc = 9) := fun y => by
              cases pi.os with
              | pu9 _ p =>
                have : x = { (q.act 0).1 with a := (q.act 0).1.a2, c := (q.act 0).1.c2, pc := 10 } := by rw [hx]; simp [DOp.after, DOp.pushed, k1, p]
                rw [this] at xp
                exact absurd (show (10 : Int) = 0 from xp) (by decide)
              | idle p => omega
              | pu1 _ p | pu2 _ p | pu3 _ p | pu4 _ p | pu5 _ p | pu6 _ p | pu7 _ p | pu8 _ p | pu10 _ p | pu11 _ p => omega
              | po1 k' | po3 k' | po11 k' | po2 k' | po4 k' | po12 k' | po13 k' | pe k' | pf k' => omega
            rw [if_neg n9] at hcc
            exact ⟨S, m1, by omega, by omega, fun lt => by rw [hcc] at lt ⊢; exact m4 lt⟩
        · have hk0 : dKind c0 ≠ 0 := by omega
          rw [if_neg hk0, if_pos hk0]
          have hcc := r.cc
          simp only [true_and] at hcc
          rw [if_neg (fun y => k1 y.1)] at hcc
          rw [if_neg (fun y => k1 y.1)] at m4
          have k2 : (q.act 0).1.kind = 2 := by
            cases pi.os with
            | idle p => exact absurd p pc
            | pu1 k' | pu2 k' | pu3 k' | pu4 k' | pu5 k' | pu6 k' | pu7 k' | pu8 k' | pu9 k' | pu10 k' | pu11 k' => exact absurd k' k1
            | po1 k' | po3 k' | po11 k' | po2 k' | po4 k' | po12 k' | po13 k' | pe k' | pf k' => exact k'
          obtain ⟨t1, t2, t3, t4⟩ := pop_steps pi.os k2 pc v
          rw [← hx] at t2
          have := t2 xp
          exact ⟨S, m1, by omega, by omega, fun lt => by rw [hcc] at lt ⊢; exact m4 lt⟩
      · rw [if_neg z, if_neg z, if_neg (fun y => z y.1), if_neg (fun y => z y.1)]
        have := (hown (own' := (q.act 0).1) (cs' := m'.cs) (by rw [if_neg z]) rfl).2 S m1 m2 m4 (.inr z)
        exact ⟨S, m1, by omega, by omega, this⟩
  · -- it goes on
    rw [r.on xp]
    have ea : ∀ j, ({ q with m := m', acts := q.acts.set w (x, (q.act w).2) } : PS).act j = if j = w then (x, (q.act w).2) else q.act j := fun j => act_set (p := q) hw
    have el : (q.acts.set w (x, (q.act w).2)).length = q.acts.length := List.length_set
    have u1 := u1 xp
    have st : ∀ j, j ≠ w → stp { q with m := m', acts := q.acts.set w (x, (q.act w).2) } j = stp q j := fun j hj => by
      unfold stp; rw [ea, if_neg hj]
    have stw : stp { q with m := m', acts := q.acts.set w (x, (q.act w).2) } w = stp q w + 1 := by
      unfold stp; rw [ea, if_pos rfl]
      show (if 0 ≤ (q.act w).2 then stepsOf x else 0) = (if 0 ≤ (q.act w).2 then _ else 0) + 1
      rw [if_pos hr, if_pos hr]; exact u1
    have own : (if 0 = w then (x, (q.act w).2) else q.act 0).1 = if w = 0 then x else (q.act 0).1 := by
      by_cases e : w = 0
      · rw [if_pos e.symm, if_pos e]
      · rw [if_neg (fun y => e y.symm), if_neg e]
    refine ⟨fun u hu hru => ?_, s2, fun u hu0 hu => ?_, ?_, ?_, ?_, ?_⟩
    · rw [ea] at hru ⊢
      by_cases e : u = w
      · subst e
        rw [if_pos rfl]
        refine ⟨c0, r1, r2, r3, ?_, ?_⟩
        · rw [hx, ((q.act u).1.after_same v).1]; exact r4
        · rw [ps]
          show _ = _ + stepsOf x
          rw [u1]; omega
      · rw [if_neg e] at hru ⊢
        rw [pn u e]
        exact s0 u (by rw [el] at hu; exact hu) hru
    · have hs := s3 u hu0 (by rw [el] at hu; exact hu)
      show _ ≤ 6 * wsum (fT u) q.calls + _
      by_cases e : u = w
      · subst e
        rw [stw, ps]; omega
      · rw [st u e, pn u e]; exact hs
    · obtain ⟨idl, i1, i2, i3⟩ := o1
      show ∃ idl : Int, 0 ≤ idl ∧ _ = wsum (fO W) q.calls + _ + idl ∧ _
      by_cases z : w = 0
      · subst z
        rw [stw, ps]
        refine ⟨idl, i1, by omega, fun y => ?_⟩
        have := (i3 y).2
        omega
      · rw [st 0 (fun y => z y.symm), pn 0 (fun y => z y.symm)]
        refine ⟨idl, i1, i2, fun y => ?_⟩
        rw [ea, if_neg (fun y => z y.symm)]
        exact i3 y
    · rw [ea, own]; exact (hown rfl rfl).1
    · rw [ea, own]
      show Bl m'.cs _ ≤ wsum fP q.calls
      rcases r.bl with b | ⟨b1, b2, b3, b4⟩
      · omega
      · exfalso
        subst b1
        cases pi.os with
        | pu11 _ p =>
          have : x = (q.act 0).1.over 2 0 := by rw [hx]; simp [DOp.after, DOp.pushed, b2, p]
          rw [this] at xp
          exact xp rfl
        | idle p => omega
        | pu1 _ p | pu2 _ p | pu3 _ p | pu4 _ p | pu5 _ p | pu6 _ p | pu7 _ p | pu8 _ p | pu9 _ p | pu10 _ p => omega
        | po1 k' | po3 k' | po11 k' | po2 k' | po4 k' | po12 k' | po13 k' | pe k' | pf k' => omega
    · obtain ⟨S, m1, m2, m3, m4⟩ := am
      rw [ea, own]
      refine ⟨S, m1, m2, m3, ?_⟩
      refine (hown rfl rfl).2 S m1 m2 m4 ?_
      by_cases z : w = 0
      · rw [if_pos z]; exact .inl xp
      · exact .inr z

theorem AI.pre {W : List Nat} {most : Int} {k : Nat} {p : PS} (h : AI W most k p) {w : Nat} (hw : w < p.acts.length) {N : Int} (pi : PI most p N) (htd : ∀ t ∈ p.todos, t.1 = 0 ∨ t.1 = 1) {q : PS} (e : p.pre most (k : Int) w = some q) : AI W most k q := by
  have m1 : 1 ≤ most := by have := pi.dg.c1; have := pi.dg.cm; omega
  have m2 := pi.dg.mx
  cases pre_cases e with
  | on h1 eq => subst eq; exact h
  | push w0 h1 t ts et k1 eq =>
    subst w0; subst eq
    have hb : DOp.push 0 most t.2.1 = _ := begin_eq m1 m2
    exact h.begin hw h1 ((pi.run 0 hw).1 h1) (fun z => absurd rfl z) (fun _ => by rw [et]; exact fun q => by cases q) (by rw [hb, k1]; rfl) (stp_begin m1 m2 (.inl ⟨.inl rfl, rfl⟩)) (by rw [hb]; exact .inl rfl) (by rw [hb]) (fun _ => by rw [hb])
  | pop w0 h1 t ts et k1 eq =>
    subst w0; subst eq
    have hb : DOp.pop 0 most = _ := begin_eq m1 m2
    have k2 : t.1 = 1 := (htd t (by rw [et]; simp)).resolve_left k1
    exact h.begin hw h1 ((pi.run 0 hw).1 h1) (fun z => absurd rfl z) (fun _ => by rw [et]; exact fun q => by cases q) (by rw [hb, k2]; rfl) (stp_begin m1 m2 (.inl ⟨.inr rfl, rfl⟩)) (by rw [hb]; exact .inl rfl) (by rw [hb]) (fun _ => by rw [hb])
  | steal w0 h1 eq =>
    subst eq
    have hb : DOp.steal 0 most = _ := begin_eq m1 m2
    exact h.begin hw h1 ((pi.run w hw).1 h1) (fun _ => rfl) (fun z => absurd z w0) (by rw [hb]; rfl) (stp_begin m1 m2 (.inr ⟨rfl, rfl⟩)) (by rw [hb]; exact .inr rfl) (by rw [hb]) (fun z => absurd z w0)

theorem AI.step {W : List Nat} {td0 : List DTd} {most : Int} {k : Nat} {p : PS} (h : AI W most k p) (hi : HI W td0 k p) (htd : ∀ t ∈ td0, t.1 = 0 ∨ t.1 = 1) {w : Nat} (hw : w < p.acts.length) (hWk : W[k]? = some w) {N : Int} (pi : PI most p N) (nn : N + 1 ≤ 1000000000) : AI W most (k + 1) (p.step most (k : Int) w) := by
  have htp : ∀ t ∈ p.todos, t.1 = 0 ∨ t.1 = 1 := fun t ht => by
    obtain ⟨dn, d1, _⟩ := hi.tds
    exact htd t (by rw [d1]; exact List.mem_append_right _ ht)
  rw [PS.step_pre]
  cases e : p.pre most (k : Int) w with
  | none =>
    obtain ⟨e1, e2, e3⟩ := pre_none e
    subst e1
    exact h.idle hWk e2 e3
  | some q =>
    obtain ⟨h1, h2, h3, h4, h5, _⟩ := pi.pre hw e
    obtain ⟨v, m', x, r⟩ := h1.go nn (n := (k : Int)) (who := w) (by omega) h4
    exact (h.pre hw pi htp e).go (hi.pre hw hWk e) (by omega) hWk h5 h4 h1 nn r
theorem stN_ai {low most thieves : Int} {todos : List DTd} {picks : List Int} (hc : CapE low most) (ht : 0 ≤ thieves) (hp : picks.length ≤ 1048576) (htd : ∀ t ∈ todos, t.1 = 0 ∨ t.1 = 1) : ∀ {k : Nat}, k ≤ picks.length → AI (whos thieves picks) most k (stN low most todos thieves picks k) := by
  intro k
  induction k with
  | zero =>
    intro _
    have pi := ps0_pi (todos := todos) (thieves := thieves) hc ht
    have ea : ∀ i, (stN low most todos thieves picks 0).act i = (DOp.zero, (-1 : Int)) := fun i => by
      show (List.replicate (1 + thieves).toNat (DOp.zero, (-1 : Int)))[i]?.getD (DOp.zero, -1) = _
      cases e : (List.replicate (1 + thieves).toNat (DOp.zero, (-1 : Int)))[i]? with
      | none => rfl
      | some y => have := (List.mem_replicate.1 (List.mem_of_getElem? e)).2; subst this; rfl
    have st : ∀ i, stp (stN low most todos thieves picks 0) i = 0 := fun i => by unfold stp; rw [ea]; exact if_neg (by decide)
    have cl : (stN low most todos thieves picks 0).calls = [] := rfl
    have w0 : ∀ f, wsum f (stN low most todos thieves picks 0).calls = 0 := fun f => rfl
    refine ⟨fun w hw h => ?_, fun i c h => (by rw [cl] at h; cases h), fun w _ _ => ?_, ⟨0, Int.le_refl _, ?_, fun h => absurd h (by decide)⟩, ?_, ?_, 0, Int.le_refl _, ?_, ?_, ?_⟩
    · rw [ea] at h; exact absurd (show (0 : Int) ≤ -1 from h) (by decide)
    · rw [w0, st, pk_zero]; decide
    · rw [w0, st, pk_zero]; decide
    · rw [ea]; exact fun h => absurd (show (0 : Int) = 1 from h) (by decide)
    · rw [w0]
      have := pi.dg.bn
      exact this
    · rw [w0]; decide
    · rw [w0, w0, w0]; decide
    · rw [ea, if_neg (by decide)]
      intro _
      have := pi.dg.c1
      exact Int.le_trans (by decide) this
  | succ k ih =>
    intro hk
    obtain ⟨i1, i2, i3⟩ := stN_all' (todos := todos) (picks := picks) hc ht hp (k := k) (by omega)
    have hwl : (whos thieves picks).length = picks.length := List.length_map ..
    have hW : (whos thieves picks)[k]? = some ((whos thieves picks)[k]'(by omega)) := by simp
    have hwm := whos_mem ht (List.getElem_mem (l := whos thieves picks) (n := k) (by omega))
    rw [stN_succ _ _ _ _ _ hW]
    exact (ih (by omega)).step i2 htd (by rw [i3]; exact hwm) hW i1 (by omega)

end Go.Mx
