/-
  buffers.Play.
-/
import Derived.Test.YtppehoailhjdfabMxBe
set_option linter.unusedVariables false
set_option linter.unusedSimpArgs false
set_option linter.unusedSectionVars false
namespace Go.Mx

/-! ### the play as plain data -/
theorem BM.store_ok {M : BM} {L k : Nat} (o : M.Ok L) (hk : k < M.n) (a v : Int) : (M.store k a v).1.Ok (L + 65) := by
  unfold BM.store
  split
  · rename_i q
    have o1 : (if M.room ≤ (M.q k).length then M.flush k else M).Ok (L + 65) := by
      split
      · exact (o.flush k).mono (by omega)
      · exact o.mono (by omega)
    have e : (if M.room ≤ (M.q k).length then M.flush k else M).n = M.n ∧ (if M.room ≤ (M.q k).length then M.flush k else M).room = M.room ∧ (if M.room ≤ (M.q k).length then M.flush k else M).cs.length = M.cs.length ∧ ((if M.room ≤ (M.q k).length then M.flush k else M).q k).length + 1 ≤ M.room := by
      obtain ⟨a1, a2, a3, a4, a5, a6, a7⟩ := M.flush_same k
      have := o.ql k
      have := o.r1
      split
      · refine ⟨a1, a2, a5, ?_⟩
        rw [a7, List.length_drop]; omega
      · exact ⟨rfl, rfl, rfl, by omega⟩
    refine o1.setq (by omega) (by rw [List.length_append]; show _ + 1 ≤ _; omega) fun w hw => ?_
    rcases List.mem_append.1 hw with hw | hw
    · exact o1.qin k w hw
    · have hw : w = (a, (v, ())) := by simpa using hw
      subst hw
      unfold BM.In at *
      rw [e.2.2.1]; exact q
  · exact o.mono (by omega)
theorem BM.act_ok {M : BM} {L k : Nat} (o : M.Ok L) (hk : k < M.n) (t : AMv) : (M.act k t).1.Ok (L + 65) := by
  have od := o.drain k
  have hc := od.cs
  unfold BM.act
  split
  · unfold BM.load
    split
    · split
      · exact o.mono (by omega)
      · exact (o.log _).mono (by omega)
    · exact o.mono (by omega)
  split
  · exact BM.store_ok o hk _ _
  split
  · unfold BM.cas
    split
    · dsimp only
      split
      · exact (BM.Ok.cells od (cs := List.set _ _ _) (by rw [List.length_set]; exact Nat.le_refl _) (by rw [List.length_set]; exact hc)).log _
      · exact od.log _
    · exact o.mono (by omega)
  split
  · unfold BM.add
    split
    · exact (BM.Ok.cells od (cs := List.set _ _ _) (by rw [List.length_set]; exact Nat.le_refl _) (by rw [List.length_set]; exact hc)).log _
    · exact o.mono (by omega)
  split
  · unfold BM.reserve
    split
    · exact o.mono (by omega)
    split
    · exact o.mono (by omega)
    · rename_i h1 h2
      have := M.drain_same k
      refine (BM.Ok.cells od (cs := _ ++ _) (by rw [List.length_append]; omega) (by rw [List.length_append, List.length_replicate]; omega)).log _
  split
  · exact od.mono (by omega)
  · exact o.mono (by omega)
theorem BM.act_n (M : BM) (k : Nat) (t : AMv) : (M.act k t).1.n = M.n ∧ (M.act k t).1.room = M.room ∧ (M.act k t).1.sz = M.sz ∧ (M.act k t).1.wt = M.wt ∧ (∀ j, j ≠ k → (M.act k t).1.q j = M.q j) := by
  obtain ⟨d1, d2, d3, d4, d5, d6, d7⟩ := M.drain_same k
  have same : M.n = M.n ∧ M.room = M.room ∧ M.sz = M.sz ∧ M.wt = M.wt ∧ (∀ j, j ≠ k → M.q j = M.q j) := ⟨rfl, rfl, rfl, rfl, fun _ _ => rfl⟩
  unfold BM.act
  split
  · unfold BM.load
    split
    · split <;> exact same
    · exact same
  split
  · unfold BM.store
    split
    · have e : ∀ M1 : BM, M1 = (if M.room ≤ (M.q k).length then M.flush k else M) → M1.n = M.n ∧ M1.room = M.room ∧ M1.sz = M.sz ∧ M1.wt = M.wt ∧ (∀ j, j ≠ k → M1.q j = M.q j) := by
        intro M1 e
        obtain ⟨a1, a2, a3, a4, a5, a6, a7⟩ := M.flush_same k
        rw [e]
        split
        · exact ⟨a1, a2, a3, a4, a6⟩
        · exact same
      obtain ⟨e1, e2, e3, e4, e5⟩ := e _ rfl
      exact ⟨e1, e2, e3, e4, fun j hj => (if_neg hj).trans (e5 j hj)⟩
    · exact same
  split
  · unfold BM.cas
    split
    · exact ⟨d1, d2, d3, d4, d6⟩
    · exact same
  split
  · unfold BM.add
    split
    · exact ⟨d1, d2, d3, d4, d6⟩
    · exact same
  split
  · unfold BM.reserve
    split
    · exact same
    split
    · exact same
    · exact ⟨d1, d2, d3, d4, d6⟩
  split
  · exact ⟨d1, d2, d3, d4, d6⟩
  · exact same

structure PB where
  m : BM
  e : List (List Eff)
def PB.step (ls : List (List AMv)) (s : PB) (x : Int) : PB :=
  let k := (x % (2 * (ls.length : Int))).toNat
  if ls.length ≤ k then { s with m := s.m.flush (k - ls.length) }
  else match (ls.getD k [])[(s.e.getD k []).length]? with
    | some t => ⟨(s.m.act k t).1, s.e.set k (s.e.getD k [] ++ [(s.m.act k t).2])⟩
    | none => s
def PB.run (ls : List (List AMv)) (s : PB) (ps : List Int) : PB := ps.foldl (PB.step ls) s
def PB.start (n rm : Nat) (sz : Int) (u : Nat) : PB := ⟨(BM.new n rm sz).used u, List.replicate n []⟩
def PB.done (ls : List (List AMv)) (s : PB) (n : Nat) : Bool := (List.range n).all fun j => (s.m.q j).isEmpty && decide ((s.e.getD j []).length = (ls.getD j []).length)
/-- What holds of it always. -/
structure PB.Ok (ls : List (List AMv)) (s : PB) (L : Nat) : Prop where
  m : s.m.Ok L
  n : s.m.n = ls.length
  el : s.e.length = ls.length
  er : ∀ k, (s.e.getD k []).length ≤ (ls.getD k []).length
theorem PB.step_flush {ls : List (List AMv)} {s : PB} {x : Int} (h : ls.length ≤ (x % (2 * (ls.length : Int))).toNat) : PB.step ls s x = { s with m := s.m.flush ((x % (2 * (ls.length : Int))).toNat - ls.length) } := by unfold PB.step; exact if_pos h
theorem PB.step_act {ls : List (List AMv)} {s : PB} {x : Int} {k : Nat} (hk : (x % (2 * (ls.length : Int))).toNat = k) (h : k < ls.length) {t : AMv} (ht : (ls.getD k [])[(s.e.getD k []).length]? = some t) : PB.step ls s x = ⟨(s.m.act k t).1, s.e.set k (s.e.getD k [] ++ [(s.m.act k t).2])⟩ := by
  subst hk; unfold PB.step; dsimp only; rw [if_neg (by omega), ht]
theorem PB.step_idle {ls : List (List AMv)} {s : PB} {x : Int} {k : Nat} (hk : (x % (2 * (ls.length : Int))).toNat = k) (h : k < ls.length) (ht : (ls.getD k [])[(s.e.getD k []).length]? = none) : PB.step ls s x = s := by
  subst hk; unfold PB.step; dsimp only; rw [if_neg (by omega), ht]
theorem getD_set {α : Type} (l : List (List α)) (i j : Nat) (x : List α) (hi : i < l.length) : (l.set i x).getD j [] = if j = i then x else l.getD j [] := by
  rw [List.getD_eq_getElem?_getD, List.getD_eq_getElem?_getD, List.getElem?_set]
  by_cases e : i = j
  · subst e; rw [if_pos rfl, if_pos hi, if_pos rfl]; rfl
  · rw [if_neg e, if_neg fun q => e q.symm]
theorem PB.Ok.step {ls : List (List AMv)} {s : PB} {L : Nat} (o : s.Ok ls L) (x : Int) : (PB.step ls s x).Ok ls (L + 65) := by
  obtain ⟨o1, o2, o3, o4⟩ := o
  by_cases h : ls.length ≤ (x % (2 * (ls.length : Int))).toNat
  · rw [PB.step_flush h]
    exact ⟨(o1.flush _).mono (by omega), (BM.flush_same _ _).1.trans o2, o3, o4⟩
  · generalize hk : (x % (2 * (ls.length : Int))).toNat = k at h
    cases ht : (ls.getD k [])[(s.e.getD k []).length]? with
    | none => rw [PB.step_idle hk (by omega) ht]; exact ⟨o1.mono (by omega), o2, o3, o4⟩
    | some t =>
      rw [PB.step_act hk (by omega) ht]
      refine ⟨BM.act_ok o1 (by omega) t, (BM.act_n _ _ _).1.trans o2, (List.length_set ..).trans o3, fun j => ?_⟩
      dsimp only
      rw [getD_set _ _ _ _ (by omega)]
      split
      · rename_i e
        subst e
        rw [List.length_append]
        exact (List.getElem?_eq_some_iff.1 ht).1
      · exact o4 j
theorem PB.Ok.mono {ls : List (List AMv)} {s : PB} {L L' : Nat} (o : s.Ok ls L) (h : L ≤ L') : s.Ok ls L' := ⟨o.m.mono h, o.n, o.el, o.er⟩
theorem PB.Ok.run {ls : List (List AMv)} : ∀ (ps : List Int) {s : PB} {L : Nat}, s.Ok ls L → (PB.run ls s ps).Ok ls (L + 65 * ps.length)
  | [], _, _, o => o
  | x :: ps, s, L, o => (PB.Ok.run ps (o.step x)).mono (by rw [List.length_cons]; omega)
theorem PB.start_ok {ls : List (List AMv)} {n rm u : Nat} {sz : Int} (hn : n = ls.length) (h1 : n ≤ 8) (h2 : 1 ≤ rm) (h3 : rm ≤ 64) (h4 : (u : Int) ≤ sz) (h5 : sz ≤ 1048576) : (PB.start n rm sz u).Ok ls 0 := by
  refine ⟨BM.Ok.cells (BM.new_ok h1 h2 h3 (by omega) h5) (Nat.zero_le _) (by rw [List.length_replicate]; exact h4), hn, by unfold PB.start; simp [hn], fun k => ?_⟩
  have : (PB.start n rm sz u).e.getD k [] = [] := by
    show (List.replicate n []).getD k [] = []
    rw [List.getD_eq_getElem?_getD, List.getElem?_replicate]
    split <;> rfl
  rw [this]; exact Nat.zero_le _

end Go.Mx
