/-
  The law BuffersAlone.
-/
import Derived.Test.YtppehoailhjdfabMxBm
set_option linter.unusedVariables false
set_option linter.unusedSimpArgs false
set_option linter.unusedSectionVars false
namespace Go.Mx

def altE (sz : Int) : List Int → List AMv → List Eff
  | _, [] => []
  | cs, t :: ts => if t.2.1 = 5 then ef 0 0 :: altE sz cs ts else (cact sz cs t).2 :: altE sz (cact sz cs t).1 ts
def esC (sz : Int) : List Int → List AMv → List Eff
  | _, [] => []
  | cs, t :: ts => (cact sz cs t).2 :: esC sz (cact sz cs t).1 ts
theorem alt_E (sz : Int) : ∀ (ts : List AMv) (cs : List Int) (es : List Eff), (ts.foldl (altS sz) (cs, es)).2 = es ++ altE sz cs ts
  | [], cs, es => by simp [altE]
  | t :: ts, cs, es => by
    rw [List.foldl_cons, altE]
    unfold altS
    by_cases q : t.2.1 = 5
    · rw [if_pos q, if_pos q]
      have := alt_E sz ts cs (es ++ [ef 0 0])
      unfold altS at this
      rw [this, List.append_assoc]; rfl
    · rw [if_neg q, if_neg q]
      have := alt_E sz ts (cact sz cs t).1 (es ++ [(cact sz cs t).2])
      unfold altS at this
      rw [this, List.append_assoc]; rfl
theorem crun_E (sz : Int) : ∀ (ts : List AMv) (s : CA), (CA.run sz s ts).es = s.es ++ esC sz s.cs ts
  | [], s => by simp [esC, CA.run]
  | t :: ts, s => by
    have := crun_E sz ts (CA.step sz s t)
    show (CA.run sz (CA.step sz s t) ts).es = _
    rw [this, esC]
    unfold CA.step
    rw [List.append_assoc]; rfl
def opn (n : Int) (ts : List AMv) : List AMv := (if 0 < n then [(0, (4, (0, (n, (0, ())))))] else []) ++ ts
def UnfC (c : Sl → Heap → (Sl → Heap → Prop) → Prop) : Prop := ∀ {s : Sl} {h : Heap} {ts : List AMv} {Q : Sl → Heap → Prop}, Arr h KMv s ts → ts.length ≤ 1000000 → (∀ t h', New h h' KMv t (unf ts) → Q t h') → c s h Q
def OpnC (c : Int → Sl → Heap → (Sl → Heap → Prop) → Prop) : Prop := ∀ {n : Int} {s : Sl} {h : Heap} {ts : List AMv} {Q : Sl → Heap → Prop}, Arr h KMv s ts → ts.length ≤ 1000000 → (∀ t h', New h h' KMv t (opn n ts) → Q t h') → c n s h Q
theorem altE_len (sz : Int) : ∀ (ts : List AMv) (cs : List Int), (altE sz cs ts).length = ts.length
  | [], _ => rfl
  | t :: ts, cs => by
    rw [altE]
    split <;> rw [List.length_cons, altE_len sz ts, List.length_cons]
theorem esC_len (sz : Int) : ∀ (ts : List AMv) (cs : List Int), (esC sz cs ts).length = ts.length
  | [], _ => rfl
  | t :: ts, cs => by rw [esC, List.length_cons, esC_len sz ts, List.length_cons]
theorem unf_len (ts : List AMv) : (unf ts).length ≤ ts.length := List.length_filter_le ..
theorem opn_es {sz u : Int} (h0 : 0 ≤ u) (h1 : u ≤ sz) (ts : List AMv) : (CA.run sz ⟨[], [], []⟩ (opn u ts)).es = (if 0 < u then [ef 0 0] else []) ++ esC sz (List.replicate u.toNat 0) ts := by
  rw [crun_E]
  unfold opn
  by_cases q : 0 < u
  · rw [if_pos q, if_pos q]
    show [] ++ esC sz [] ((0, (4, (0, (u, (0, ()))))) :: ts) = _
    rw [esC]
    have : cact sz [] (0, (4, (0, (u, (0, ()))))) = (List.replicate u.toNat 0, ef 0 0) := by
      unfold cact
      dsimp only
      rw [if_neg (by decide), if_neg (by decide), if_neg (by decide), if_neg (by decide), if_pos rfl, if_neg (show ¬ u < 1 by omega), if_neg (show ¬ sz - ((([] : List Int).length : Nat) : Int) < u by rw [List.length_nil]; omega)]
      rfl
    rw [this]; rfl
  · rw [if_neg q, if_neg q]
    obtain rfl : u = 0 := by omega
    rfl


section
variable {cb : Int → Int → Int → Heap → ((Int × Wait) → Heap → Prop) → Prop} {cp : Int → Int → Int → Sl → Sl → Heap → ((Den KRun × (Int × Unit)) → Heap → Prop) → Prop} {cm : Int → Int → Heap → (Int → Heap → Prop) → Prop} {cu : Sl → Heap → (Sl → Heap → Prop) → Prop} {co : Int → Sl → Heap → (Sl → Heap → Prop) → Prop} {cc : Int → Sl → Heap → ((Den KCr × (Int × Unit)) → Heap → Prop) → Prop}
  (iM : ModC cm) (iU : UnfC cu) (iO : OpnC co) (iC : CPlayC cc)
include iU iO iC
end

theorem run_mono {ls : List (List AMv)} (k : Nat) : ∀ (ps : List Int) {s : PB} {L : Nat}, s.Ok ls L → (s.e.getD k []).length ≤ ((PB.run ls s ps).e.getD k []).length
  | [], _, _, _ => Nat.le_refl _
  | x :: ps, s, L, ok => by
    refine Nat.le_trans ?_ (run_mono k ps (ok.step x))
    rw [step_len ok rfl k]
    split <;> omega

end Go.Mx
