/-
  With a fence behind each store: each actor's accesses are its acts, in order.
-/
import Derived.Test.YtppehoailhjdfabMxBo
set_option linter.unusedVariables false
set_option linter.unusedSimpArgs false
set_option linter.unusedSectionVars false
namespace Go.Mx

def toldOk (p : AMv × Eff) : Bool := decide (p.1.2.1 ≠ 5) && decide (p.2.2.2.1 = 0)
def toldL (w : Nat) (ps : List (AMv × Eff)) : List Acc := (ps.filter toldOk).map fun p => toldP (w : Int) p.1 p.2
def whoL (w : Nat) (lg : List Acc) : List Acc := lg.filter fun x => decide (x.1 = (w : Int))
def stE (w : Nat) (x : Wait) : Acc := ((w : Int), (1, (x.1, (x.2.1, (0, (true, ()))))))
def BM.did (M : BM) (w : Nat) : List Acc := whoL w M.lg ++ (M.q w).map (stE w)
def Grd (l : List AMv) : Prop := ∀ (i : Nat) t t', l[i]? = some t → t.2.1 = 1 → l[i + 1]? = some t' → t'.2.1 = 5
theorem whoL_snoc (w : Nat) (lg : List Acc) (a : Acc) : whoL w (lg ++ [a]) = whoL w lg ++ (if a.1 = (w : Int) then [a] else []) := by
  unfold whoL
  rw [List.filter_append, List.filter_cons, List.filter_nil]
  congr 1
  by_cases q : a.1 = (w : Int)
  · simp [q]
  · simp [q]
theorem toldL_snoc {l : List AMv} {e : List Eff} {t : AMv} {f : Eff} (w : Nat) (h : l[e.length]? = some t) : toldL w (l.zip (e ++ [f])) = toldL w (l.zip e) ++ (if toldOk (t, f) then [toldP (w : Int) t f] else []) := by
  unfold toldL
  rw [zip_snoc l e t f h, List.filter_append, List.map_append]
  congr 1
  rw [List.filter_cons, List.filter_nil]
  split <;> rfl
theorem BM.lg_log {M : BM} (h : M.wt = true) (cs : List Int) (a : Acc) : (BM.log { M with cs := cs } a).lg = M.lg ++ [a] := by
  show wl M.wt M.lg a = _
  rw [h]; rfl
theorem BM.did_flush {M : BM} (h : M.wt = true) (k w : Nat) : (M.flush k).did w = M.did w := by
  cases e : M.q k with
  | nil => rw [BM.flush_nil e]
  | cons x r =>
    rw [BM.flush_cons e]
    unfold BM.did
    rw [BM.lg_log (M := M.setq k r) h]
    show whoL w (M.lg ++ [_]) ++ (if w = k then r else M.q w).map (stE w) = _
    rw [whoL_snoc]
    by_cases q : w = k
    · subst q
      rw [if_pos rfl, if_pos rfl, e, List.append_assoc]; rfl
    · rw [if_neg q, if_neg (show ¬ (k : Int) = (w : Int) by omega), List.append_nil]
theorem BM.did_drainN {k : Nat} (w : Nat) : ∀ (i : Nat) {M : BM}, M.wt = true → (BM.drainN k i M).did w = M.did w
  | 0, _, _ => rfl
  | i + 1, M, h => by rw [BM.drainN, did_drainN w i ((M.flush_same k).2.2.2.1.trans h), BM.did_flush h]
theorem BM.drain_nil {M : BM} {k : Nat} (h : M.q k = []) : M.drain k = M := by unfold BM.drain; rw [h]; rfl
/-- An act of an actor with nothing waiting leaves its entry, or lets it wait. -/
theorem BM.did_log {M : BM} (h : M.wt = true) (cs : List Int) (a : Acc) (w : Nat) : (BM.log { M with cs := cs } a).did w = whoL w M.lg ++ (if a.1 = (w : Int) then [a] else []) ++ (M.q w).map (stE w) := by
  unfold BM.did
  rw [BM.lg_log h, whoL_snoc]; rfl
theorem BM.did_act {M : BM} (h : M.wt = true) (hr : 1 ≤ M.room) {k : Nat} (hq : M.q k = []) {t : AMv} (ht : t.2.1 ≠ 5) (w : Nat) : (M.act k t).1.did w = M.did w ++ (if w = k ∧ toldOk (t, (M.act k t).2) = true then [toldP (w : Int) t (M.act k t).2] else []) := by
  have no : ∀ {f : Eff}, f.2.2.1 ≠ 0 → M.did w = M.did w ++ (if w = k ∧ toldOk (t, f) = true then [toldP (w : Int) t f] else []) := by
    intro f q
    rw [if_neg, List.append_nil]
    rintro ⟨_, e⟩
    simp [toldOk, q] at e
  have one : ∀ (cs : List Int) (a : Acc) (f : Eff), a.1 = (k : Int) → f.2.2.1 = 0 → (w = k → a = toldP (w : Int) t f) → (BM.log { M with cs := cs } a).did w = M.did w ++ (if w = k ∧ toldOk (t, f) = true then [toldP (w : Int) t f] else []) := by
    intro cs a f ha hf he
    rw [BM.did_log h]
    by_cases e : w = k
    · rw [if_pos (by rw [ha, e]), if_pos ⟨e, by simp [toldOk, ht, hf]⟩, ← he e]
      unfold BM.did
      rw [e, hq]; simp
    · rw [if_neg (show ¬ a.1 = (w : Int) from fun q => e (by have z : (k : Int) = (w : Int) := ha.symm.trans q; omega)), if_neg (fun q => e q.1), List.append_nil, List.append_nil]
      rfl
  have hd := BM.drain_nil hq
  obtain ⟨t0, t1, t2, t3, t4, tu⟩ := t
  unfold BM.act
  rw [hd]
  dsimp only at ht ⊢
  by_cases q0 : t1 = 0
  · subst q0
    rw [if_pos rfl]
    unfold BM.load
    split
    · rw [hq]
      exact one M.cs _ (ef (M.at' t2) 0) rfl rfl fun e => by subst e; rfl
    · exact no (show (20 : Int) ≠ 0 by decide)
  rw [if_neg q0]
  by_cases q1 : t1 = 1
  · subst q1
    rw [if_pos rfl]
    unfold BM.store
    split
    · dsimp only
      rw [hq, if_neg (by rw [List.length_nil]; omega), hq]
      unfold BM.did BM.setq
      dsimp only
      by_cases e : w = k
      · subst e
        rw [if_pos rfl, if_pos ⟨rfl, rfl⟩, hq, List.map_nil, List.append_nil]
        rfl
      · rw [if_neg e, if_neg (fun q => e q.1), List.append_nil]
    · exact no (show (20 : Int) ≠ 0 by decide)
  rw [if_neg q1]
  by_cases q2 : t1 = 2
  · subst q2
    rw [if_pos rfl]
    unfold BM.cas
    rw [hd]
    split
    · exact one _ _ (0, (decide (M.at' t2 = t3), (0, ()))) rfl rfl fun e => by subst e; rfl
    · exact no (show (20 : Int) ≠ 0 by decide)
  rw [if_neg q2]
  by_cases q3 : t1 = 3
  · subst q3
    rw [if_pos rfl]
    unfold BM.add
    rw [hd]
    split
    · exact one _ _ (ef (w64 (M.at' t2 + t3)) 0) rfl rfl fun e => by subst e; rfl
    · exact no (show (20 : Int) ≠ 0 by decide)
  rw [if_neg q3]
  by_cases q4 : t1 = 4
  · subst q4
    rw [if_pos rfl]
    unfold BM.reserve
    rw [hd]
    split
    · exact no (show (21 : Int) ≠ 0 by decide)
    split
    · exact no (show (22 : Int) ≠ 0 by decide)
    · exact one _ _ (ef (M.cs.length : Int) 0) rfl rfl fun e => by subst e; rfl
  rw [if_neg q4, if_neg ht]
  exact no (show (23 : Int) ≠ 0 by decide)

def FenI (ls : List (List AMv)) (s : PB) : Prop := s.m.wt = true ∧ ∀ w, s.m.did w = toldL w ((ls.getD w []).zip (s.e.getD w [])) ∧ (s.m.q w = [] ∨ ((s.m.q w).length = 1 ∧ ∀ t, (ls.getD w [])[(s.e.getD w []).length]? = some t → t.2.1 = 5))
theorem toldOk_fence {t : AMv} {f : Eff} (h : t.2.1 = 5) : toldOk (t, f) = false := by simp [toldOk, h]
theorem BM.act_q {M : BM} {k : Nat} (hr : 1 ≤ M.room) (hq : M.q k = []) (t : AMv) : (M.act k t).1.q k = [] ∨ (t.2.1 = 1 ∧ ((M.act k t).1.q k).length = 1) := by
  have hd := BM.drain_nil hq
  unfold BM.act
  split
  · left
    unfold BM.load
    split
    · split <;> exact hq
    · exact hq
  split
  · rename_i q1
    unfold BM.store
    split
    · right
      refine ⟨q1, ?_⟩
      dsimp only
      rw [hq, if_neg (by rw [List.length_nil]; omega), hq]
      show (if k = k then _ else _ : List Wait).length = 1
      rw [if_pos rfl]; rfl
    · exact .inl hq
  split
  · left
    unfold BM.cas
    rw [hd]
    split <;> exact hq
  split
  · left
    unfold BM.add
    rw [hd]
    split <;> exact hq
  split
  · left
    unfold BM.reserve
    rw [hd]
    split
    · exact hq
    split <;> exact hq
  split
  · left
    show (M.drain k).q k = []
    rw [hd]; exact hq
  · exact .inl hq
theorem BM.act_fence {M : BM} {k : Nat} {t : AMv} (h : t.2.1 = 5) : M.act k t = (M.drain k, ef 0 0) := by
  unfold BM.act
  rw [if_neg (by rw [h]; decide), if_neg (by rw [h]; decide), if_neg (by rw [h]; decide), if_neg (by rw [h]; decide), if_neg (by rw [h]; decide), if_pos h]
theorem FenI.step {ls : List (List AMv)} {s : PB} {L : Nat} (hg : ∀ w, Grd (ls.getD w [])) (ok : s.Ok ls L) (o : FenI ls s) (x : Int) : FenI ls (PB.step ls s x) := by
  obtain ⟨o1, o2⟩ := o
  by_cases h : ls.length ≤ (x % (2 * (ls.length : Int))).toNat
  · rw [PB.step_flush h]
    generalize (x % (2 * (ls.length : Int))).toNat - ls.length = k
    obtain ⟨b1, b2, b3, b4, b5, b6, b7⟩ := s.m.flush_same k
    refine ⟨b4.trans o1, fun w => ⟨(BM.did_flush o1 k w).trans (o2 w).1, ?_⟩⟩
    dsimp only
    by_cases e : w = k
    · subst e
      left
      rw [b7]
      rcases (o2 w).2 with q | ⟨q, _⟩
      · rw [q]; rfl
      · exact List.drop_of_length_le (by omega)
    · rw [b6 w e]; exact (o2 w).2
  · generalize hk : (x % (2 * (ls.length : Int))).toNat = k at h
    cases ht : (ls.getD k [])[(s.e.getD k []).length]? with
    | none => rw [PB.step_idle hk (by omega) ht]; exact ⟨o1, o2⟩
    | some t =>
      rw [PB.step_act hk (by omega) ht]
      obtain ⟨a1, a2, a3, a4, a5⟩ := BM.act_n s.m k t
      refine ⟨a4.trans o1, fun w => ?_⟩
      dsimp only
      rw [getD_set _ _ _ _ (by rw [ok.el]; omega)]
      by_cases q5 : t.2.1 = 5
      · have ha := BM.act_fence (M := s.m) (k := k) q5
        have hdid : (s.m.act k t).1.did w = s.m.did w := by rw [ha]; exact BM.did_drainN w _ o1
        rw [hdid, (o2 w).1]
        by_cases e : w = k
        · subst e
          rw [if_pos rfl, toldL_snoc w ht, toldOk_fence q5, if_neg (by decide), List.append_nil]
          exact ⟨rfl, .inl (by rw [ha]; exact (s.m.drain_same w).2.2.2.2.2.2)⟩
        · rw [if_neg e, a5 w e]; exact ⟨rfl, (o2 w).2⟩
      · have hq : s.m.q k = [] := by
          rcases (o2 k).2 with q | ⟨_, q⟩
          · exact q
          · exact absurd (q t ht) q5
        rw [BM.did_act o1 ok.m.r1 hq q5 w, (o2 w).1]
        by_cases e : w = k
        · subst e
          rw [if_pos rfl, toldL_snoc w ht]
          refine ⟨?_, ?_⟩
          · congr 1
            by_cases z : toldOk (t, (s.m.act w t).2) = true
            · rw [if_pos ⟨rfl, z⟩, if_pos z]
            · rw [if_neg (fun p => z p.2), if_neg z]
          · rcases BM.act_q ok.m.r1 hq t with q | ⟨q1, q2⟩
            · exact .inl q
            · refine .inr ⟨q2, fun t' ht' => ?_⟩
              rw [List.length_append] at ht'
              exact hg w _ t t' ht q1 ht'
        · rw [if_neg e, if_neg (fun p => e p.1), List.append_nil, a5 w e]
          exact ⟨rfl, (o2 w).2⟩
theorem FenI.run {ls : List (List AMv)} (hg : ∀ w, Grd (ls.getD w [])) : ∀ (ps : List Int) {s : PB} {L : Nat}, s.Ok ls L → FenI ls s → FenI ls (PB.run ls s ps)
  | [], _, _, _, o => o
  | x :: ps, s, L, ok, o => FenI.run hg ps (ok.step x) (o.step hg ok x)

/-! ### fences put in -/
def fenceA : AMv := (0, (5, (0, (0, (0, ())))))
def guardP (l : List AMv) : List AMv := l.flatMap fun t => t :: (if t.2.1 = 1 then [fenceA] else [])
theorem guardP_cons (t : AMv) (l : List AMv) : guardP (t :: l) = t :: ((if t.2.1 = 1 then [fenceA] else []) ++ guardP l) := rfl
theorem guardP_len : ∀ (l : List AMv), (guardP l).length ≤ 2 * l.length
  | [] => Nat.le_refl _
  | t :: l => by
    have := guardP_len l
    rw [guardP_cons, List.length_cons, List.length_append, List.length_cons]
    split <;> simp <;> omega
theorem Grd.nil : Grd [] := fun i t t' h => by simp at h
theorem guardP_grd : ∀ (l : List AMv), Grd (guardP l)
  | [] => Grd.nil
  | t :: l => by
    have ih := guardP_grd l
    rw [guardP_cons]
    intro i a b ha h1 hb
    by_cases q : t.2.1 = 1
    · rw [if_pos q] at ha hb
      cases i with
      | zero =>
        obtain rfl : fenceA = b := by simpa using hb
        rfl
      | succ i =>
        cases i with
        | zero =>
          obtain rfl : fenceA = a := by simpa using ha
          exact absurd h1 (show ¬ (5 : Int) = 1 by decide)
        | succ i => exact ih i a b (by simpa using ha) h1 (by simpa using hb)
    · rw [if_neg q] at ha hb
      cases i with
      | zero =>
        obtain rfl : t = a := by simpa using ha
        exact absurd h1 q
      | succ i => exact ih i a b (by simpa using ha) h1 (by simpa using hb)
theorem few_grd (ls : List (List AMv)) (w : Nat) : Grd ((fewP guardP ls).getD w []) := by
  rw [List.getD_eq_getElem?_getD]
  cases e : (fewP guardP ls)[w]? with
  | none => exact Grd.nil
  | some l =>
    have hm := List.mem_of_getElem? e
    unfold fewP at hm
    split at hm
    · obtain rfl : l = [] := by simpa using hm
      exact Grd.nil
    · obtain ⟨x, _, rfl⟩ := List.mem_map.1 hm
      exact guardP_grd _

end Go.Mx
