/-
  Plays on waiting stores: each actor's stores come into the cells in their order.
-/
import Derived.Test.YtppehoailhjdfabMxBg
set_option linter.unusedVariables false
set_option linter.unusedSimpArgs false
set_option linter.unusedSectionVars false
namespace Go.Mx

def isSt (w : Nat) (x : Acc) : Bool := decide (x.1 = (w : Int)) && decide (x.2.1 = 1)
def stW (x : Acc) : Wait := (x.2.2.1, (x.2.2.2.1, ()))
def stL (w : Nat) (lg : List Acc) : List Wait := (lg.filter (isSt w)).map stW
def isMade (p : AMv × Eff) : Bool := decide (p.1.2.1 = 1) && decide (p.2.2.2.1 = 0)
def mdW (p : AMv × Eff) : Wait := (p.1.2.2.1, (p.1.2.2.2.1, ()))
def madeP (l : List AMv) (e : List Eff) : List Wait := ((l.zip e).filter isMade).map mdW
theorem stL_snoc (w : Nat) (lg : List Acc) (a : Acc) : stL w (lg ++ [a]) = stL w lg ++ (if isSt w a then [stW a] else []) := by
  unfold stL
  rw [List.filter_append, List.map_append]
  congr 1
  rw [List.filter_cons, List.filter_nil]
  split <;> rfl
theorem zip_snoc {α β : Type} : ∀ (l : List α) (e : List β) (t : α) (f : β), l[e.length]? = some t → l.zip (e ++ [f]) = l.zip e ++ [(t, f)]
  | [], e, t, f, h => by simp at h
  | x :: l, [], t, f, h => by
    obtain rfl : x = t := by simpa using h
    simp
  | x :: l, y :: e, t, f, h => by
    have h : l[e.length]? = some t := by simpa using h
    rw [List.cons_append, List.zip_cons_cons, List.zip_cons_cons, zip_snoc l e t f h, List.cons_append]
theorem madeP_snoc {l : List AMv} {e : List Eff} {t : AMv} {f : Eff} (h : l[e.length]? = some t) : madeP l (e ++ [f]) = madeP l e ++ (if isMade (t, f) then [mdW (t, f)] else []) := by
  unfold madeP
  rw [zip_snoc l e t f h, List.filter_append, List.map_append]
  congr 1
  rw [List.filter_cons, List.filter_nil]
  split <;> rfl
/-- What an actor has stored, come into the cells or not. -/
def BM.sto (M : BM) (w : Nat) : List Wait := stL w M.lg ++ M.q w
theorem BM.sto_flush {M : BM} (h : M.wt = true) (k w : Nat) : (M.flush k).sto w = M.sto w := by
  cases e : M.q k with
  | nil => rw [BM.flush_nil e]
  | cons x r =>
    rw [BM.flush_cons e]
    have hw : wl M.wt M.lg ((k : Int), (1, (x.1, (x.2.1, (0, (true, ())))))) = M.lg ++ [((k : Int), (1, (x.1, (x.2.1, (0, (true, ()))))))] := by rw [h]; rfl
    show stL w (wl M.wt M.lg ((k : Int), (1, (x.1, (x.2.1, (0, (true, ()))))))) ++ (if w = k then r else M.q w) = stL w M.lg ++ M.q w
    rw [hw, stL_snoc]
    by_cases q : w = k
    · subst q
      have : isSt w ((w : Int), (1, (x.1, (x.2.1, (0, (true, ())))))) = true := by simp [isSt]
      rw [if_pos rfl, this, if_pos rfl, e, List.append_assoc]
      rfl
    · have : isSt w ((k : Int), (1, (x.1, (x.2.1, (0, (true, ())))))) = false := by
        have : ¬ (k : Int) = (w : Int) := by omega
        simp [isSt, this]
      rw [if_neg q, this, if_neg (fun q => by cases q), List.append_nil]
theorem BM.sto_drainN {k : Nat} (w : Nat) : ∀ (i : Nat) {M : BM}, M.wt = true → (BM.drainN k i M).sto w = M.sto w
  | 0, _, _ => rfl
  | i + 1, M, h => by rw [BM.drainN, sto_drainN w i ((M.flush_same k).2.2.2.1.trans h), BM.sto_flush h]
theorem BM.sto_drain {M : BM} (h : M.wt = true) (k w : Nat) : (M.drain k).sto w = M.sto w := BM.sto_drainN w _ h
theorem BM.sto_log {M : BM} {a : Acc} (h : a.2.1 ≠ 1) (w : Nat) (cs : List Int) : (BM.log { M with cs := cs } a).sto w = M.sto w := by
  unfold BM.sto BM.log wl
  dsimp only
  split
  · rw [stL_snoc, if_neg (by simp [isSt, h]), List.append_nil]
  · rfl
theorem BM.sto_act {M : BM} (h : M.wt = true) {k : Nat} {t : AMv} (w : Nat) : (M.act k t).1.sto w = M.sto w ++ (if w = k ∧ isMade (t, (M.act k t).2) = true then [mdW (t, (M.act k t).2)] else []) := by
  have no : ∀ {f : Eff}, t.2.1 ≠ 1 → M.sto w = M.sto w ++ (if w = k ∧ isMade (t, f) = true then [mdW (t, f)] else []) := by
    intro f q
    rw [if_neg, List.append_nil]
    rintro ⟨_, e⟩
    simp [isMade, q] at e
  unfold BM.act
  by_cases q0 : t.2.1 = 0
  · rw [if_pos q0]
    refine Eq.trans ?_ (no (by rw [q0]; decide))
    unfold BM.load
    split
    · split
      · rfl
      · exact BM.sto_log (show (0 : Int) ≠ 1 by decide) w M.cs
    · rfl
  rw [if_neg q0]
  by_cases q1 : t.2.1 = 1
  · rw [if_pos q1]
    dsimp only
    unfold BM.store
    split
    · dsimp only
      have hw : (if M.room ≤ (M.q k).length then M.flush k else M).sto w = M.sto w := by
        split
        · exact BM.sto_flush h k w
        · rfl
      generalize (if M.room ≤ (M.q k).length then M.flush k else M) = M1 at hw
      rw [← hw]
      unfold BM.sto BM.setq
      dsimp only
      by_cases e : w = k
      · subst e
        rw [if_pos rfl, if_pos ⟨rfl, by simp [isMade, q1, ef]⟩, List.append_assoc]
        rfl
      · rw [if_neg e, if_neg (fun q => e q.1), List.append_nil]
    · rw [if_neg, List.append_nil]
      rintro ⟨_, e⟩
      simp [isMade, ef] at e
  rw [if_neg q1]
  by_cases q2 : t.2.1 = 2
  · rw [if_pos q2]
    refine Eq.trans ?_ (no q1)
    unfold BM.cas
    split
    · exact (BM.sto_log (show (2 : Int) ≠ 1 by decide) w _).trans (BM.sto_drain h k w)
    · rfl
  rw [if_neg q2]
  by_cases q3 : t.2.1 = 3
  · rw [if_pos q3]
    refine Eq.trans ?_ (no q1)
    unfold BM.add
    split
    · exact (BM.sto_log (show (3 : Int) ≠ 1 by decide) w _).trans (BM.sto_drain h k w)
    · rfl
  rw [if_neg q3]
  by_cases q4 : t.2.1 = 4
  · rw [if_pos q4]
    refine Eq.trans ?_ (no q1)
    unfold BM.reserve
    split
    · rfl
    split
    · rfl
    · exact (BM.sto_log (show (4 : Int) ≠ 1 by decide) w _).trans (BM.sto_drain h k w)
  rw [if_neg q4]
  by_cases q5 : t.2.1 = 5
  · rw [if_pos q5]
    refine Eq.trans ?_ (no q1)
    exact BM.sto_drain h k w
  rw [if_neg q5]
  exact no q1
def OrdI (ls : List (List AMv)) (s : PB) : Prop := s.m.wt = true ∧ ∀ w, s.m.sto w = madeP (ls.getD w []) (s.e.getD w [])
theorem OrdI.step {ls : List (List AMv)} {s : PB} {L : Nat} (ok : s.Ok ls L) (o : OrdI ls s) (x : Int) : OrdI ls (PB.step ls s x) := by
  obtain ⟨o1, o2⟩ := o
  by_cases h : ls.length ≤ (x % (2 * (ls.length : Int))).toNat
  · rw [PB.step_flush h]
    exact ⟨(BM.flush_same _ _).2.2.2.1.trans o1, fun w => (BM.sto_flush o1 _ w).trans (o2 w)⟩
  · generalize hk : (x % (2 * (ls.length : Int))).toNat = k at h
    cases ht : (ls.getD k [])[(s.e.getD k []).length]? with
    | none => rw [PB.step_idle hk (by omega) ht]; exact ⟨o1, o2⟩
    | some t =>
      rw [PB.step_act hk (by omega) ht]
      refine ⟨(BM.act_n _ _ _).2.2.2.1.trans o1, fun w => ?_⟩
      dsimp only
      rw [BM.sto_act o1, getD_set _ _ _ _ (by rw [ok.el]; omega), o2 w]
      by_cases e : w = k
      · subst e
        rw [if_pos rfl, madeP_snoc ht]
        congr 1
        by_cases q : isMade (t, (s.m.act w t).2) = true
        · rw [if_pos ⟨rfl, q⟩, if_pos q]
        · rw [if_neg (fun p => q p.2), if_neg q]
      · rw [if_neg e, if_neg (fun p => e p.1), List.append_nil]
theorem OrdI.run {ls : List (List AMv)} : ∀ (ps : List Int) {s : PB} {L : Nat}, s.Ok ls L → OrdI ls s → OrdI ls (PB.run ls s ps)
  | [], _, _, _, o => o
  | x :: ps, s, L, ok, o => OrdI.run ps (ok.step x) (o.step ok x)
theorem getD_rep {α : Type} (n k : Nat) : (List.replicate n ([] : List α)).getD k [] = [] := by
  rw [List.getD_eq_getElem?_getD, List.getElem?_replicate]
  split <;> rfl
theorem OrdI.start (ls : List (List AMv)) (n rm u : Nat) (sz : Int) : OrdI ls (PB.start n rm sz u) := by
  refine ⟨rfl, fun w => ?_⟩
  show _ = madeP _ ((List.replicate n []).getD w [])
  rw [getD_rep]
  unfold madeP
  rw [List.zip_nil_right]
  rfl

/-! ### progress -/
theorem step_len {ls : List (List AMv)} {s : PB} {L : Nat} (ok : s.Ok ls L) {x : Int} {k : Nat} (hk : (x % (2 * (ls.length : Int))).toNat = k) (j : Nat) : ((PB.step ls s x).e.getD j []).length = (if j = k ∧ k < ls.length ∧ (s.e.getD k []).length < (ls.getD k []).length then (s.e.getD j []).length + 1 else (s.e.getD j []).length) := by
  by_cases h : ls.length ≤ k
  · rw [PB.step_flush (by omega), if_neg (by omega)]
  · cases ht : (ls.getD k [])[(s.e.getD k []).length]? with
    | none =>
      rw [PB.step_idle hk (by omega) ht, if_neg]
      have := List.getElem?_eq_none_iff.1 ht
      omega
    | some t =>
      have := (List.getElem?_eq_some_iff.1 ht).1
      rw [PB.step_act hk (by omega) ht]
      dsimp only
      rw [getD_set _ _ _ _ (by rw [ok.el]; omega)]
      by_cases e : j = k
      · subst e; rw [if_pos rfl, if_pos ⟨rfl, by omega, by omega⟩, List.length_append]; rfl
      · rw [if_neg e, if_neg (fun q => e q.1)]

end Go.Mx
