/-
  The law BuffersFenced.
-/
import Derived.Test.YtppehoailhjdfabMxBr
import Derived.Test.YtppehoailhjdfabMxBk
set_option linter.unusedVariables false
set_option linter.unusedSimpArgs false
set_option linter.unusedSectionVars false
namespace Go.Mx

theorem toldL_cons (w : Nat) (p : AMv × Eff) (l : List (AMv × Eff)) : toldL w (p :: l) = if toldOk p then toldP (w : Int) p.1 p.2 :: toldL w l else toldL w l := by
  unfold toldL
  rw [List.filter_cons]
  split <;> rfl
theorem whoL_cons (w : Nat) (a : Acc) (l : List Acc) : whoL w (a :: l) = if a.1 = (w : Int) then a :: whoL w l else whoL w l := by
  unfold whoL
  rw [List.filter_cons]
  by_cases q : a.1 = (w : Int)
  · simp [q]
  · simp [q]
/-- What is left of an actor's acts, behind so many. -/
def leftL (ls : List (List AMv)) (s : PB) (w n : Nat) : List (AMv × Eff) := ((ls.getD w []).zip (s.e.getD w [])).drop n
theorem left_len {ls : List (List AMv)} {s : PB} {L : Nat} (ok : s.Ok ls L) (w n : Nat) : (leftL ls s w n).length = (s.e.getD w []).length - n := by
  unfold leftL
  have := ok.er w
  rw [List.length_drop, List.length_zip]; omega
theorem left_cons {ls : List (List AMv)} {s : PB} {L : Nat} (ok : s.Ok ls L) {w n : Nat} (h : n < (s.e.getD w []).length) : ∃ t f, (ls.getD w [])[n]? = some t ∧ (s.e.getD w [])[n]? = some f ∧ leftL ls s w n = (t, f) :: leftL ls s w (n + 1) := by
  have h1 := ok.er w
  have hz : n < ((ls.getD w []).zip (s.e.getD w [])).length := by rw [List.length_zip]; omega
  refine ⟨(ls.getD w [])[n]'(by omega), (s.e.getD w [])[n], by simp, by simp, ?_⟩
  unfold leftL
  rw [List.drop_eq_getElem_cons hz, List.getElem_zip]

abbrev nz (l : List Nat) : List Int := l.map fun (n : Nat) => (n : Int)
theorem nz_get {l : List Nat} {w n : Nat} (h : l[w]? = some n) : (nz l)[w]? = some (n : Int) := by rw [List.getElem?_map, h]; rfl
theorem nz_set (l : List Nat) (w n : Nat) : (nz l).set w (n : Int) = nz (l.set w n) := by unfold nz; rw [List.map_set]

/-! ### at most one entry a pick -/
def sumQ : Nat → (Nat → List Wait) → Nat
  | 0, _ => 0
  | n + 1, q => sumQ n q + (q n).length
theorem sumQ_upd {q q' : Nat → List Wait} {k : Nat} (h : ∀ j, j ≠ k → q' j = q j) : ∀ n, sumQ n q' + (if k < n then (q k).length else 0) = sumQ n q + (if k < n then (q' k).length else 0)
  | 0 => rfl
  | n + 1 => by
    have ih := sumQ_upd h n
    unfold sumQ
    by_cases e : n = k
    · subst e
      rw [if_neg (by omega), if_neg (by omega)] at ih
      rw [if_pos (by omega), if_pos (by omega)]
      omega
    · rw [h n e]
      by_cases z : k < n
      · rw [if_pos z, if_pos z] at ih
        rw [if_pos (by omega), if_pos (by omega)]; omega
      · rw [if_neg z, if_neg z] at ih
        rw [if_neg (by omega), if_neg (by omega)]; omega
def BM.tot (M : BM) : Nat := M.lg.length + sumQ M.n M.q
theorem BM.tot_flush {M : BM} {L : Nat} (o : M.Ok L) (k : Nat) : (M.flush k).tot ≤ M.tot := by
  cases e : M.q k with
  | nil => rw [BM.flush_nil e]; exact Nat.le_refl _
  | cons w r =>
    have hk : k < M.n := o.lt (by rw [e]; exact fun q => by cases q)
    obtain ⟨b1, b2, b3, b4, b5, b6, b7⟩ := M.flush_same k
    have u := sumQ_upd (q := M.q) (q' := (M.flush k).q) (k := k) b6 M.n
    rw [if_pos hk, if_pos hk, b7, e] at u
    unfold BM.tot
    rw [b1]
    have hl : (M.flush k).lg.length ≤ M.lg.length + 1 := by
      rw [BM.flush_cons e]; exact wl_lenB _ _ _
    simp only [List.length_cons, List.drop_succ_cons, List.drop_zero] at u
    omega
theorem BM.tot_drainN {k : Nat} : ∀ (i : Nat) {M : BM} {L : Nat}, M.Ok L → (BM.drainN k i M).tot ≤ M.tot
  | 0, _, _, _ => Nat.le_refl _
  | i + 1, M, L, o => Nat.le_trans (tot_drainN i (o.flush k)) (BM.tot_flush o k)
theorem BM.tot_log (M : BM) (cs : List Int) (a : Acc) : (BM.log { M with cs := cs } a).tot ≤ M.tot + 1 := by
  have := wl_lenB M.wt M.lg a
  show (wl M.wt M.lg a).length + sumQ M.n M.q ≤ M.lg.length + sumQ M.n M.q + 1
  omega
theorem BM.tot_act {M : BM} {L k : Nat} (o : M.Ok L) (t : AMv) : (M.act k t).1.tot ≤ M.tot + 1 := by
  have d : (M.drain k).tot ≤ M.tot := BM.tot_drainN _ o
  have one : ∀ cs a, (BM.log { M.drain k with cs := cs } a).tot ≤ M.tot + 1 := fun cs a => Nat.le_trans (BM.tot_log _ _ _) (by omega)
  unfold BM.act
  split
  · unfold BM.load
    split
    · split
      · exact Nat.le_succ _
      · exact BM.tot_log M M.cs _
    · exact Nat.le_succ _
  split
  · unfold BM.store
    split
    · have key : ∀ M1 : BM, M1.tot ≤ M.tot → ∀ x, (M1.setq k (M1.q k ++ [x])).tot ≤ M.tot + 1 := by
        intro M1 h1 x
        have u := sumQ_upd (q := M1.q) (q' := (M1.setq k (M1.q k ++ [x])).q) (k := k) (fun j hj => if_neg hj) M1.n
        have e : ((M1.setq k (M1.q k ++ [x])).q k).length = (M1.q k).length + 1 := by
          show (if k = k then _ else _ : List Wait).length = _
          rw [if_pos rfl, List.length_append]; rfl
        rw [e] at u
        show M1.lg.length + sumQ M1.n (M1.setq k (M1.q k ++ [x])).q ≤ _
        unfold BM.tot at h1
        unfold BM.tot
        split at u <;> omega
      dsimp only
      split
      · exact key _ (BM.tot_flush o k) _
      · exact key _ (Nat.le_refl _) _
    · exact Nat.le_succ _
  split
  · unfold BM.cas
    split
    · exact one _ _
    · exact Nat.le_succ _
  split
  · unfold BM.add
    split
    · exact one _ _
    · exact Nat.le_succ _
  split
  · unfold BM.reserve
    split
    · exact Nat.le_succ _
    split
    · exact Nat.le_succ _
    · exact one _ _
  split
  · exact Nat.le_trans d (Nat.le_succ _)
  · exact Nat.le_succ _
theorem PB.tot_step {ls : List (List AMv)} {s : PB} {L : Nat} (ok : s.Ok ls L) (x : Int) : (PB.step ls s x).m.tot ≤ s.m.tot + 1 := by
  unfold PB.step
  dsimp only
  split
  · exact Nat.le_trans (BM.tot_flush ok.m _) (Nat.le_succ _)
  · split
    · exact BM.tot_act ok.m _
    · exact Nat.le_succ _
theorem PB.tot_run {ls : List (List AMv)} : ∀ (ps : List Int) {s : PB} {L : Nat}, s.Ok ls L → (PB.run ls s ps).m.tot ≤ s.m.tot + ps.length
  | [], _, _, _ => Nat.le_refl _
  | x :: ps, s, L, ok => by
    have a := PB.tot_run ps (ok.step x)
    have b := PB.tot_step ok x
    rw [List.length_cons]
    show (PB.run ls (PB.step ls s x) ps).m.tot ≤ _
    omega
theorem sumQ_nil : ∀ n, sumQ n (fun _ => []) = 0
  | 0 => rfl
  | n + 1 => by unfold sumQ; rw [sumQ_nil n]; rfl
theorem PB.log_le {ls : List (List AMv)} {n rm u : Nat} {sz : Int} (ps : List Int) {L : Nat} (ok : (PB.start n rm sz u).Ok ls L) : (PB.run ls (PB.start n rm sz u) ps).m.lg.length ≤ ps.length := by
  have a := PB.tot_run ps ok
  have b : (PB.start n rm sz u).m.tot = 0 := by
    show 0 + sumQ n (fun _ => []) = 0
    rw [sumQ_nil]
  unfold BM.tot at a b
  omega
theorem FenI.start (ls : List (List AMv)) (n rm u : Nat) (sz : Int) : FenI ls (PB.start n rm sz u) := by
  refine ⟨rfl, fun w => ⟨?_, .inl rfl⟩⟩
  have e : (PB.start n rm sz u).e.getD w [] = [] := getD_rep n w
  rw [e, List.zip_nil_right]; rfl
theorem RepM.start (n rm u : Nat) (sz : Int) : RepM (List.replicate u 0) (PB.start n rm sz u).m := ⟨rfl, rfl, rfl⟩
theorem WhoI.start (n rm u : Nat) (sz : Int) (k : Nat) : WhoI k (PB.start n rm sz u).m := fun a h => by cases h

end Go.Mx
