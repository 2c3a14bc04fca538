/-
  One actor alone: its acts answer as on plain cells.
-/
import Derived.Test.YtppehoailhjdfabMxBl
set_option linter.unusedVariables false
set_option linter.unusedSimpArgs false
set_option linter.unusedSectionVars false
namespace Go.Mx

def applyQ (cs : List Int) (q : List Wait) : List Int := q.foldl (fun cs w => cs.set w.1.toNat w.2.1) cs
theorem applyQ_len : ∀ (q : List Wait) (cs : List Int), (applyQ cs q).length = cs.length
  | [], _ => rfl
  | w :: q, cs => (applyQ_len q _).trans (List.length_set ..)
theorem applyQ_snoc (cs : List Int) (q : List Wait) (w : Wait) : applyQ cs (q ++ [w]) = (applyQ cs q).set w.1.toNat w.2.1 := by
  unfold applyQ
  rw [List.foldl_append]; rfl
theorem atC_set {cs : List Int} {i a v : Int} (h : 0 ≤ i) (ha : 0 ≤ a ∧ a < (cs.length : Int)) : atC (cs.set i.toNat v) a = if i = a then v else atC cs a := by
  unfold atC
  rw [List.getElem?_set]
  by_cases e : i = a
  · subst e
    rw [if_pos rfl, if_pos (by omega), if_pos rfl]; rfl
  · rw [if_neg (by omega), if_neg e]
theorem seen_at : ∀ (q : List Wait) (cs : List Int) (a : Int), (∀ w ∈ q, 0 ≤ w.1 ∧ w.1 < (cs.length : Int)) → 0 ≤ a ∧ a < (cs.length : Int) → atC (applyQ cs q) a = (seenW q a).getD (atC cs a)
  | [], cs, a, _, _ => rfl
  | w :: q, cs, a, hq, ha => by
    have ih := seen_at q (cs.set w.1.toNat w.2.1) a (fun x hx => by rw [List.length_set]; exact hq x (.tail _ hx)) (by rw [List.length_set]; exact ha)
    have hw := hq w (.head _)
    show atC (applyQ (cs.set w.1.toNat w.2.1) q) a = _
    rw [ih, atC_set hw.1 ha]
    unfold seenW
    rw [List.reverse_cons, List.find?_append]
    cases List.find? (fun w => decide (w.1 = a)) q.reverse with
    | some x => rfl
    | none =>
      show (if w.1 = a then w.2.1 else atC cs a) = _
      rw [Option.none_or, List.find?_cons, List.find?_nil]
      by_cases e : w.1 = a
      · rw [if_pos e, decide_eq_true e]; rfl
      · rw [if_neg e, decide_eq_false e]; rfl
/-- The cells as an actor alone sees them. -/
def BM.vcs (M : BM) (k : Nat) : List Int := applyQ M.cs (M.q k)
theorem BM.vcs_flush (M : BM) (k : Nat) : (M.flush k).vcs k = M.vcs k := by
  cases e : M.q k with
  | nil => rw [BM.flush_nil e]
  | cons w r =>
    unfold BM.vcs
    rw [(M.flush_same k).2.2.2.2.2.2, BM.flush_cons e, e]
    rfl
theorem BM.vcs_drainN {k : Nat} : ∀ (i : Nat) (M : BM), (BM.drainN k i M).vcs k = M.vcs k
  | 0, _ => rfl
  | i + 1, M => by rw [BM.drainN, vcs_drainN i, BM.vcs_flush]
theorem BM.vcs_drain (M : BM) (k : Nat) : (M.drain k).cs = M.vcs k := by
  have h := BM.vcs_drainN (k := k) (M.q k).length M
  have e : (M.drain k).vcs k = (M.drain k).cs := by
    unfold BM.vcs
    rw [(M.drain_same k).2.2.2.2.2.2]; rfl
  rw [← e]; exact h
theorem BM.vcs_nil {M : BM} {k : Nat} (h : M.q k = []) : M.vcs k = M.cs := by unfold BM.vcs; rw [h]; rfl

theorem BM.act_alone {M : BM} {L k : Nat} (o : M.Ok L) (t : AMv) :
    (M.act k t).2 = (if t.2.1 = 5 then ef 0 0 else (cact M.sz (M.vcs k) t).2) ∧ (M.act k t).1.vcs k = (if t.2.1 = 5 then M.vcs k else (cact M.sz (M.vcs k) t).1) := by
  have hlen : (M.vcs k).length = M.cs.length := applyQ_len _ _
  have hin : ∀ a, M.In a ↔ InC (M.vcs k) a := fun a => by unfold BM.In InC; rw [hlen]
  have hd := M.vcs_drain k
  obtain ⟨d1, d2, d3, d4, d5, d6, d7⟩ := M.drain_same k
  have hat : ∀ a, (M.drain k).at' a = atC (M.vcs k) a := fun a => by unfold BM.at' atC; rw [hd]
  unfold BM.act cact
  by_cases q0 : t.2.1 = 0
  · rw [if_pos q0, if_pos q0, if_neg (show ¬ t.2.1 = 5 by rw [q0]; decide), if_neg (show ¬ t.2.1 = 5 by rw [q0]; decide)]
    unfold BM.load
    by_cases c : M.In t.2.2.1
    · rw [if_pos c, if_pos ((hin _).1 c)]
      have hs := seen_at (M.q k) M.cs t.2.2.1 (fun w hw => o.qin k w hw) c
      have hs : atC (M.vcs k) t.2.2.1 = (seenW (M.q k) t.2.2.1).getD (atC M.cs t.2.2.1) := hs
      cases e : seenW (M.q k) t.2.2.1 with
      | some v => rw [e] at hs; rw [hs]; exact ⟨rfl, rfl⟩
      | none => rw [e] at hs; rw [hs]; exact ⟨rfl, rfl⟩
    · rw [if_neg c, if_neg (fun q => c ((hin _).2 q))]; exact ⟨rfl, rfl⟩
  rw [if_neg q0, if_neg q0]
  by_cases q1 : t.2.1 = 1
  · rw [if_pos q1, if_pos q1, if_neg (show ¬ t.2.1 = 5 by rw [q1]; decide), if_neg (show ¬ t.2.1 = 5 by rw [q1]; decide)]
    unfold BM.store
    by_cases c : M.In t.2.2.1
    · rw [if_pos c, if_pos ((hin _).1 c)]
      dsimp only
      have hv : (if M.room ≤ (M.q k).length then M.flush k else M).vcs k = M.vcs k := by
        split
        · exact M.vcs_flush k
        · rfl
      generalize (if M.room ≤ (M.q k).length then M.flush k else M) = M1 at hv
      refine ⟨rfl, ?_⟩
      rw [← hv]
      unfold BM.vcs BM.setq
      dsimp only
      rw [if_pos rfl, applyQ_snoc]
    · rw [if_neg c, if_neg (fun q => c ((hin _).2 q))]; exact ⟨rfl, rfl⟩
  rw [if_neg q1, if_neg q1]
  by_cases q2 : t.2.1 = 2
  · rw [if_pos q2, if_pos q2, if_neg (show ¬ t.2.1 = 5 by rw [q2]; decide), if_neg (show ¬ t.2.1 = 5 by rw [q2]; decide)]
    unfold BM.cas
    by_cases c : M.In t.2.2.1
    · rw [if_pos c, if_pos ((hin _).1 c)]
      dsimp only
      rw [hat, hd]
      exact ⟨rfl, BM.vcs_nil (M := BM.log { M.drain k with cs := _ } _) d7⟩
    · rw [if_neg c, if_neg (fun q => c ((hin _).2 q))]; exact ⟨rfl, rfl⟩
  rw [if_neg q2, if_neg q2]
  by_cases q3 : t.2.1 = 3
  · rw [if_pos q3, if_pos q3, if_neg (show ¬ t.2.1 = 5 by rw [q3]; decide), if_neg (show ¬ t.2.1 = 5 by rw [q3]; decide)]
    unfold BM.add
    by_cases c : M.In t.2.2.1
    · rw [if_pos c, if_pos ((hin _).1 c)]
      dsimp only
      rw [hat, hd]
      exact ⟨rfl, BM.vcs_nil (M := BM.log { M.drain k with cs := _ } _) d7⟩
    · rw [if_neg c, if_neg (fun q => c ((hin _).2 q))]; exact ⟨rfl, rfl⟩
  rw [if_neg q3, if_neg q3]
  by_cases q4 : t.2.1 = 4
  · rw [if_pos q4, if_pos q4, if_neg (show ¬ t.2.1 = 5 by rw [q4]; decide), if_neg (show ¬ t.2.1 = 5 by rw [q4]; decide)]
    unfold BM.reserve
    by_cases c1 : t.2.2.2.1 < 1
    · rw [if_pos c1, if_pos c1]; exact ⟨rfl, rfl⟩
    rw [if_neg c1, if_neg c1, hlen]
    by_cases c2 : M.sz - (M.cs.length : Int) < t.2.2.2.1
    · rw [if_pos c2, if_pos c2]; exact ⟨rfl, rfl⟩
    rw [if_neg c2, if_neg c2]
    dsimp only
    rw [hd, hlen]
    exact ⟨rfl, BM.vcs_nil (M := BM.log { M.drain k with cs := _ } _) d7⟩
  rw [if_neg q4, if_neg q4]
  by_cases q5 : t.2.1 = 5
  · rw [if_pos q5, if_pos q5, if_pos q5]
    exact ⟨rfl, BM.vcs_drainN _ M⟩
  rw [if_neg q5, if_neg q5, if_neg q5]
  exact ⟨rfl, rfl⟩

/-- What acts answer one behind the other, fences among them. -/
def altS (sz : Int) (s : List Int × List Eff) (t : AMv) : List Int × List Eff := if t.2.1 = 5 then (s.1, s.2 ++ [ef 0 0]) else ((cact sz s.1 t).1, s.2 ++ [(cact sz s.1 t).2])
def alt (sz : Int) (cs : List Int) (ts : List AMv) : List Int × List Eff := ts.foldl (altS sz) (cs, [])
theorem alt_snoc (sz : Int) (cs : List Int) (ts : List AMv) (t : AMv) : alt sz cs (ts ++ [t]) = altS sz (alt sz cs ts) t := by
  unfold alt
  rw [List.foldl_append]; rfl
def AloI (cs0 : List Int) (X : List AMv) (s : PB) : Prop := (s.m.vcs 0, s.e.getD 0 []) = alt s.m.sz cs0 (X.take (s.e.getD 0 []).length)
theorem AloI.step {cs0 : List Int} {X : List AMv} {s : PB} {L : Nat} (ok : s.Ok [X] L) (o : AloI cs0 X s) (x : Int) : AloI cs0 X (PB.step [X] s x) := by
  unfold AloI at *
  by_cases h : [X].length ≤ (x % (2 * ([X].length : Int))).toNat
  · rw [PB.step_flush h]
    have hr := mod_rangeB (x := x) (n := 2 * ([X].length : Int)) (by simp)
    have : (x % (2 * ([X].length : Int))).toNat - [X].length = 0 := by
      rw [List.length_singleton] at *; omega
    rw [this]
    dsimp only
    rw [BM.vcs_flush, (BM.flush_same _ _).2.2.1]
    exact o
  · generalize hk : (x % (2 * ([X].length : Int))).toNat = k at h
    have hk0 : k = 0 := by rw [List.length_singleton] at h; omega
    subst hk0
    cases ht : (([X] : List (List AMv)).getD 0 [])[(s.e.getD 0 []).length]? with
    | none => rw [PB.step_idle hk Nat.zero_lt_one ht]; exact o
    | some t =>
      rw [PB.step_act hk Nat.zero_lt_one ht]
      dsimp only
      have ht : X[(s.e.getD 0 []).length]? = some t := ht
      obtain ⟨a1, a2⟩ := BM.act_alone (k := 0) ok.m t
      have hel := ok.el
      rw [getD_set _ _ _ _ (by rw [hel]; exact Nat.zero_lt_one), if_pos rfl, (BM.act_n _ _ _).2.2.1, List.length_append, List.length_singleton]
      obtain ⟨hlt, hx⟩ := List.getElem?_eq_some_iff.1 ht
      rw [take_succ' X hlt, alt_snoc, ← o, hx, a1, a2]
      unfold altS
      by_cases q : t.2.1 = 5
      · rw [if_pos q, if_pos q, if_pos q]
      · rw [if_neg q, if_neg q, if_neg q]
theorem AloI.run {cs0 : List Int} {X : List AMv} : ∀ (ps : List Int) {s : PB} {L : Nat}, s.Ok [X] L → AloI cs0 X s → AloI cs0 X (PB.run [X] s ps)
  | [], _, _, _, o => o
  | x :: ps, s, L, ok, o => AloI.run ps (ok.step x) (o.step ok x)

/-- With the fences left out: the same answers. -/
def unf (ts : List AMv) : List AMv := ts.filter fun t => decide (t.2.1 ≠ 5)
theorem alt_unf (sz : Int) (s0 : CA) : ∀ (ts : List AMv) (cs : List Int) (es : List Eff), s0.cs = cs → (ts.foldl (altS sz) (cs, es)).1 = (CA.run sz s0 (unf ts)).cs
  | [], cs, es, h => h.symm
  | t :: ts, cs, es, h => by
    rw [List.foldl_cons]
    unfold unf
    rw [List.filter_cons]
    by_cases q : t.2.1 = 5
    · rw [if_neg (by simp [q])]
      unfold altS
      rw [if_pos q]
      exact alt_unf sz s0 ts cs _ h
    · rw [if_pos (by simp [q])]
      unfold altS
      rw [if_neg q]
      exact alt_unf sz (CA.step sz s0 t) ts _ _ (by unfold CA.step; dsimp only; rw [h])

end Go.Mx
