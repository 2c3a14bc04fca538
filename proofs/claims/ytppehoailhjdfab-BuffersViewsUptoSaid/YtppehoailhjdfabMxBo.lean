/-
  The log of a play, done again on plain cells, answers the same.
-/
import Derived.Test.YtppehoailhjdfabMxBm
set_option linter.unusedVariables false
set_option linter.unusedSimpArgs false
set_option linter.unusedSectionVars false
namespace Go.Mx

def asAct (x : Acc) : AMv := (x.1, (x.2.1, (x.2.2.1, (x.2.2.2.1, (x.2.2.2.2.1, ())))))
def RepI (sz : Int) (c0 cs : List Int) (lg : List Acc) : Prop := (CA.run sz ⟨c0, [], []⟩ (lg.map asAct)).cs = cs ∧ (CA.run sz ⟨c0, [], []⟩ (lg.map asAct)).lg = lg
theorem RepI.snoc {sz : Int} {c0 cs cs' : List Int} {lg : List Acc} (r : RepI sz c0 cs lg) {a : Acc} {f : Eff} (h1 : cact sz cs (asAct a) = (cs', f)) (h2 : f.2.2.1 = 0) (h3 : toldP a.1 (asAct a) f = a) : RepI sz c0 cs' (lg ++ [a]) := by
  obtain ⟨r1, r2⟩ := r
  have e : CA.run sz ⟨c0, [], []⟩ ((lg ++ [a]).map asAct) = CA.step sz (CA.run sz ⟨c0, [], []⟩ (lg.map asAct)) (asAct a) := by
    unfold CA.run
    rw [List.map_append, List.foldl_append]; rfl
  unfold RepI
  rw [e]
  unfold CA.step
  rw [r1, r2, h1]
  dsimp only
  rw [if_pos h2]
  exact ⟨rfl, congrArg (fun x => lg ++ [x]) h3⟩
def RepM (c0 : List Int) (M : BM) : Prop := M.wt = true ∧ RepI M.sz c0 M.cs M.lg
theorem RepM.log {c0 : List Int} {M : BM} (r : RepM c0 M) {cs' : List Int} {a : Acc} {f : Eff} (h1 : cact M.sz M.cs (asAct a) = (cs', f)) (h2 : f.2.2.1 = 0) (h3 : toldP a.1 (asAct a) f = a) : RepM c0 (BM.log { M with cs := cs' } a) := by
  refine ⟨r.1, ?_⟩
  show RepI M.sz c0 cs' (wl M.wt M.lg a)
  rw [r.1]
  exact r.2.snoc h1 h2 h3
theorem RepM.flush {c0 : List Int} {M : BM} {L : Nat} (ok : M.Ok L) (r : RepM c0 M) (k : Nat) : RepM c0 (M.flush k) := by
  cases e : M.q k with
  | nil => rw [BM.flush_nil e]; exact r
  | cons w q =>
    have hin : InC M.cs w.1 := ok.qin k w (by rw [e]; exact .head _)
    rw [BM.flush_cons e]
    refine RepM.log (M := M.setq k q) (f := ef 0 0) r ?_ rfl rfl
    unfold cact
    exact (if_neg (show ¬ (1 : Int) = 0 by decide)).trans ((if_pos rfl).trans (if_pos hin))
theorem RepM.drainN {c0 : List Int} {k : Nat} : ∀ (i : Nat) {M : BM} {L : Nat}, M.Ok L → RepM c0 M → RepM c0 (BM.drainN k i M)
  | 0, _, _, _, r => r
  | i + 1, M, L, ok, r => RepM.drainN i (ok.flush k) (r.flush ok k)
theorem RepM.drain {c0 : List Int} {M : BM} {L : Nat} (ok : M.Ok L) (r : RepM c0 M) (k : Nat) : RepM c0 (M.drain k) := RepM.drainN _ ok r
theorem RepM.act {c0 : List Int} {M : BM} {L k : Nat} (ok : M.Ok L) (r : RepM c0 M) (t : AMv) : RepM c0 (M.act k t).1 := by
  have rd := r.drain ok k
  obtain ⟨d1, d2, d3, d4, d5, d6, d7⟩ := M.drain_same k
  have hin : ∀ {a}, M.In a → InC (M.drain k).cs a := fun h => by unfold BM.In at h; unfold InC; rw [d5]; exact h
  unfold BM.act
  split
  · unfold BM.load
    split
    · rename_i c
      split
      · exact r
      · refine RepM.log (M := M) (cs' := M.cs) (f := ef (M.at' t.2.2.1) 0) r ?_ rfl rfl
        unfold cact
        exact (if_pos rfl).trans (if_pos c)
    · exact r
  split
  · unfold BM.store
    split
    · dsimp only
      split
      · exact r.flush ok k
      · exact r
    · exact r
  split
  · unfold BM.cas
    split
    · rename_i c
      refine RepM.log (M := M.drain k) (f := (0, (decide ((M.drain k).at' t.2.2.1 = t.2.2.2.1), (0, ())))) rd ?_ rfl rfl
      unfold cact
      exact (if_neg (show ¬ (2 : Int) = 0 by decide)).trans ((if_neg (show ¬ (2 : Int) = 1 by decide)).trans ((if_pos rfl).trans (if_pos (hin c))))
    · exact r
  split
  · unfold BM.add
    split
    · rename_i c
      refine RepM.log (M := M.drain k) (f := ef (w64 ((M.drain k).at' t.2.2.1 + t.2.2.2.1)) 0) rd ?_ rfl rfl
      unfold cact
      exact (if_neg (show ¬ (3 : Int) = 0 by decide)).trans ((if_neg (show ¬ (3 : Int) = 1 by decide)).trans ((if_neg (show ¬ (3 : Int) = 2 by decide)).trans ((if_pos rfl).trans (if_pos (hin c)))))
    · exact r
  split
  · unfold BM.reserve
    split
    · exact r
    split
    · exact r
    · rename_i c1 c2
      refine RepM.log (M := M.drain k) (f := ef ((M.drain k).cs.length : Int) 0) rd ?_ rfl rfl
      unfold cact
      exact (if_neg (show ¬ (4 : Int) = 0 by decide)).trans ((if_neg (show ¬ (4 : Int) = 1 by decide)).trans ((if_neg (show ¬ (4 : Int) = 2 by decide)).trans ((if_neg (show ¬ (4 : Int) = 3 by decide)).trans ((if_pos rfl).trans ((if_neg c1).trans (if_neg (by rw [d3, d5]; exact c2)))))))
  split
  · exact rd
  · exact r
theorem RepM.step {c0 : List Int} {ls : List (List AMv)} {s : PB} {L : Nat} (ok : s.Ok ls L) (r : RepM c0 s.m) (x : Int) : RepM c0 (PB.step ls s x).m := by
  unfold PB.step
  dsimp only
  split
  · exact r.flush ok.m _
  · split
    · exact r.act ok.m _
    · exact r
theorem RepM.run {c0 : List Int} {ls : List (List AMv)} : ∀ (ps : List Int) {s : PB} {L : Nat}, s.Ok ls L → RepM c0 s.m → RepM c0 (PB.run ls s ps).m
  | [], _, _, _, r => r
  | x :: ps, s, L, ok, r => RepM.run ps (ok.step x) (r.step ok x)

end Go.Mx
