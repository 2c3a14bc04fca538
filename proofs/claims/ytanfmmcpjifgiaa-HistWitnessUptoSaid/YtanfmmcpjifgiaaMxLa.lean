/-
  Calls taken by themselves: the program's view and the reference's are the same.
-/
import Derived.Test.YtanfmmcpjifgiaaMxY
set_option linter.unusedVariables false
set_option linter.unusedSimpArgs false
namespace Go.Mx

def May (kind code : Int) : Prop := (kind = 0 ∧ (code = 2 ∨ code = 3)) ∨ (kind = 1 ∧ (code = 4 ∨ code = 5)) ∨ (kind ≠ 0 ∧ kind ≠ 1 ∧ (code = 4 ∨ code = 5 ∨ code = 6))
def SoundI (who kind bg en code : Int) : Prop :=
  (0 ≤ who ∧ who ≤ 3) ∧ 0 ≤ bg ∧ (who = 0 → kind = 0 ∨ kind = 1) ∧ (0 < who → kind = 2) ∧ ((code = 0 ∧ en = -1) ∨ (code ≠ 0 ∧ bg ≤ en ∧ May kind code))
def Sound (c : Cl) : Prop := SoundI c.1 c.2.1 c.2.2.2.1 c.2.2.2.2.1 c.2.2.2.2.2.1

theorem may_spec {kind code : Int} {h : Heap} {Q : Bool → Heap → Prop} (hQ : ∀ b : Bool, (b = true ↔ May kind code) → Q b h) : hist_may.M kind code h Q := by
  unfold hist_may.M
  unfold May at hQ
  repeat' (first | apply And.intro | intro e)
  all_goals
    refine hQ _ ?_
    try simp only [decide_eq_true_eq, decide_eq_false_iff_not, true_iff, false_iff, Bool.false_eq_true] at *
    omega

theorem sound_spec {c : Cl} {h : Heap} {c1 : Int → Int → Heap → (Bool → Heap → Prop) → Prop} (i1 : ∀ {a b h Q}, hist_may.M a b h Q → c1 a b h Q) {Q : Bool → Heap → Prop} (hQ : ∀ b : Bool, (b = true ↔ Sound c) → Q b h) : hist_sound.M c1 c h Q := by
  obtain ⟨who, kind, arg, bg, en, code, v, u⟩ := c
  change Int at who kind arg bg en code v
  unfold hist_sound.M hist_sound.j6 hist_sound.j5 hist_sound.j4 hist_sound.j3 hist_sound.j2 hist_sound.j1
  dsimp only [Den]
  have hmay : ∀ b : Bool, (b = true ↔ May kind code) → code ≠ 0 → bg ≤ en → (0 ≤ who ∧ who ≤ 3) → 0 ≤ bg → (who = 0 → kind = 0 ∨ kind = 1) → (0 < who → kind = 2) → Q b h := by
    intro b hb q1 q2 q3 q4 q5 q6
    refine hQ b (hb.trans ⟨fun m => ⟨q3, q4, q5, q6, .inr ⟨q1, q2, m⟩⟩, fun m => ?_⟩)
    rcases m.2.2.2.2 with x | x
    · exact absurd x.1 q1
    · exact x.2.2
  have hQ : ∀ b : Bool, (b = true ↔ SoundI who kind bg en code) → Q b h := hQ
  unfold SoundI May at hQ
  repeat' (first | apply And.intro | intro e)
  all_goals first
    | (refine i1 (may_spec fun b hb => hmay b hb ?_ ?_ ?_ ?_ ?_ ?_) <;> clear hb hQ hmay i1 <;> simp only [decide_eq_true_eq, decide_eq_false_iff_not, reduceCtorEq] at * <;> omega)
    | (refine hQ _ ?_; clear hQ hmay i1; simp only [decide_eq_true_eq, decide_eq_false_iff_not, Bool.false_eq_true, reduceCtorEq, false_iff, true_iff] at * <;> omega)

theorem mayA_spec {kind code : Int} {h : Heap} {Q : Bool → Heap → Prop} (hQ : ∀ b : Bool, (b = true ↔ May kind code) → Q b h) : ref4_mayAnswer.M kind code h Q := may_spec hQ

theorem single_spec {c : Cl} {h : Heap} {c1 : Int → Int → Heap → (Bool → Heap → Prop) → Prop} (i1 : ∀ {a b h Q}, ref4_mayAnswer.M a b h Q → c1 a b h Q) {Q : Bool → Heap → Prop} (hQ : ∀ b : Bool, (b = true ↔ Sound c) → Q b h) : ref4_single.M c1 c h Q := by
  obtain ⟨who, kind, arg, bg, en, code, v, u⟩ := c
  change Int at who kind arg bg en code v
  unfold ref4_single.M ref4_single.j4 ref4_single.j3 ref4_single.j2 ref4_single.j1
  dsimp only [Den]
  have hmay : ∀ b : Bool, (b = true ↔ May kind code) → en ≠ -1 → bg ≤ en → (0 ≤ who ∧ who ≤ 3) → 0 ≤ bg → (who = 0 → kind = 0 ∨ kind = 1) → (0 < who → kind = 2) → Q b h := by
    intro b hb q1 q2 q3 q4 q5 q6
    refine hQ b (hb.trans ⟨fun m => ⟨q3, q4, q5, q6, .inr ⟨?_, q2, m⟩⟩, fun m => ?_⟩)
    · rintro rfl
      unfold May at m
      omega
    · rcases m.2.2.2.2 with x | x
      · exact absurd x.2 q1
      · exact x.2.2
  have hQ : ∀ b : Bool, (b = true ↔ SoundI who kind bg en code) → Q b h := hQ
  unfold SoundI May at hQ
  repeat' (first | apply And.intro | intro e)
  all_goals first
    | (refine i1 (mayA_spec fun b hb => hmay b hb ?_ ?_ ?_ ?_ ?_ ?_) <;> clear hb hQ hmay i1 <;> simp only [decide_eq_true_eq, decide_eq_false_iff_not, reduceCtorEq] at * <;> omega)
    | (refine hQ _ ?_; clear hQ hmay i1; simp only [decide_eq_true_eq, decide_eq_false_iff_not, Bool.false_eq_true, reduceCtorEq, false_iff, true_iff] at * <;> omega)

def cWho (c : Cl) : Int := c.1
def cBg (c : Cl) : Int := c.2.2.2.1
def cEn (c : Cl) : Int := c.2.2.2.2.1
def cCode (c : Cl) : Int := c.2.2.2.2.2.1
theorem sound_facts {c : Cl} (h : Sound c) : (cEn c = -1 ↔ cCode c = 0) ∧ (cEn c ≠ -1 → cBg c ≤ cEn c) ∧ 0 ≤ cWho c ∧ cWho c ≤ 3 ∧ 0 ≤ cBg c := by
  have h : SoundI (cWho c) c.2.1 (cBg c) (cEn c) (cCode c) := h
  unfold SoundI at h
  obtain ⟨h1, h2, _, _, h5⟩ := h
  rcases h5 with ⟨a, b⟩ | ⟨a, b, _⟩
  · exact ⟨by omega, by omega, by omega, by omega, by omega⟩
  · exact ⟨by omega, by omega, by omega, by omega, by omega⟩

/-- 4.1: two calls of one actor that overlap. -/
def Bad2 (a b : Cl) : Prop := cWho a = cWho b ∧ (cEn a = -1 ∨ cBg b ≤ cEn a)
/-- 4.1: the first n calls are a history. -/
def HistN (cs : List Cl) (n : Nat) : Prop := ∀ (i : Nat) b, i < n → cs[i]? = some b → Sound b ∧ ∀ (j : Nat) a, j < i → cs[j]? = some a → ¬ Bad2 a b
theorem HistN.succ {cs : List Cl} {n : Nat} {b : Cl} (h : HistN cs n) (hb : cs[n]? = some b) (hs : Sound b) (hp : ∀ (j : Nat) a, j < n → cs[j]? = some a → ¬ Bad2 a b) : HistN cs (n + 1) := by
  intro i c hi hc
  by_cases e : i = n
  · subst e
    rw [hb] at hc; cases hc
    exact ⟨hs, hp⟩
  · exact h i c (by omega) hc

/-- The fields of an element. -/
theorem cl_cells {h : Heap} {s : Sl} {cs : List Cl} (ha : Arr h kapiCall s cs) {i : Nat} {c : Cl} (hc : cs[i]? = some c) : ∃ a, s.a = some a ∧ cellsAt h ((a.add (i * 7)).add 0) (Kd.cells ki (cWho c)) ∧
    cellsAt h ((a.add (i * 7)).add 3) (Kd.cells ki (cBg c)) ∧ cellsAt h ((a.add (i * 7)).add 4) (Kd.cells ki (cEn c)) ∧ cellsAt h ((a.add (i * 7)).add 5) (Kd.cells ki (cCode c)) := by
  have hi := (List.getElem?_eq_some_iff.1 hc).1
  obtain ⟨a, n, m⟩ := s
  cases a with
  | none => have := ha.2.2; have := ha.1; dsimp only at *; omega
  | some a =>
    have := cellsAt_el ha.2.2 hc
    refine ⟨a, rfl, ?_, ?_, ?_, ?_⟩
    · intro j v hj
      have := this j v (by cases j with | zero => exact hj | succ j => cases hj)
      exact this
    · intro j v hj
      rw [add_add']
      have := this (3 + j) v (by cases j with | zero => exact hj | succ j => cases hj)
      exact this
    · intro j v hj
      rw [add_add']
      have := this (4 + j) v (by cases j with | zero => exact hj | succ j => cases hj)
      exact this
    · intro j v hj
      rw [add_add']
      have := this (5 + j) v (by cases j with | zero => exact hj | succ j => cases hj)
      exact this

theorem rhistory_spec {calls : Sl} {h : Heap} {cs : List Cl} (ha : Arr h kapiCall calls cs) (hn : calls.len ≤ 2097152) {c1 : Cl → Heap → (Bool → Heap → Prop) → Prop} (i1 : ∀ {c : Cl} {h Q}, (∀ b : Bool, (b = true ↔ Sound c) → Q b h) → c1 c h Q)
    {Q : Bool → Heap → Prop} (hQ : ∀ b : Bool, (b = true ↔ HistN cs cs.length) → Q b h) : ref4_History.M c1 calls h Q := by
  have hl : calls.len = cs.length := ha.1.symm
  refine Loop.up calls.len (fun s => s.1) (fun i s h' => h' = h ∧ HistN cs i) rfl ⟨rfl, fun i b hi => absurd hi (Nat.not_lt_zero _)⟩ ?_
  rintro i ⟨j, u⟩ h' go hi hc ⟨rfl, hH⟩ hgo
  dsimp only at hc; subst hc
  refine ⟨fun c => ?_, fun c => ?_⟩
  · have c : (i : Int) < (calls.len : Int) := of_decide_eq_true c
    have c' : i < calls.len := by omega
    have hlt : i < cs.length := by omega
    refine ⟨⟨Int.natCast_nonneg i, c⟩, ha.at (Int.natCast_nonneg i) c rfl ?_⟩
    intro x hx
    rw [Int.toNat_natCast] at hx
    refine i1 fun b hb => ⟨fun f => ?_, fun f => ?_⟩
    · refine hQ false ⟨fun e => (by cases e), fun e => ?_⟩
      have := hb.2 (e i x hlt hx).1
      rw [this] at f; cases f
    have hs : Sound x := hb.1 (by cases b <;> first | rfl | cases f)
    refine Loop.up i (fun s => s.1) (fun j s h'' => h'' = h' ∧ ∀ (q : Nat) a, q < j → cs[q]? = some a → ¬ Bad2 a x) rfl ⟨rfl, fun q a hq => absurd hq (Nat.not_lt_zero _)⟩ ?_
    rintro j ⟨jj, u2⟩ h'' go2 hj hcj ⟨rfl, hP⟩ hgo2
    dsimp only at hcj; subst hcj
    refine ⟨fun d => ?_, fun d => ?_⟩
    · have d : (j : Int) < (i : Int) := of_decide_eq_true d
      have d' : j < i := by omega
      obtain ⟨y, hy⟩ : ∃ y, cs[j]? = some y := ⟨cs[j]'(by omega), by simp⟩
      obtain ⟨a, ea, w1, b1, e1, _⟩ := cl_cells ha hy
      obtain ⟨a', ea', w2, b2, e2, _⟩ := cl_cells ha hx
      rw [ea] at ea'; cases ea'
      have bnd1 : (0 : Int) ≤ (j : Int) ∧ (j : Int) < (calls.len : Int) := ⟨by omega, by omega⟩
      have bnd2 : (0 : Int) ≤ (i : Int) ∧ (i : Int) < (calls.len : Int) := ⟨by omega, by omega⟩
      have j2 : ∀ b : Bool, (b = true ↔ Bad2 y x) → ref4_History.j2 Q go2 ((j : Int), u2) (b, ()) h'' := by
        intro b hb2
        refine ⟨fun e => hQ false ⟨fun q => (by cases q), fun q => absurd (hb2.1 e) ((q i x hlt hx).2 j y d' hy)⟩, fun e => ?_⟩
        refine hgo2 d' _ _ (by show w64 ((j : Int) + 1) = _; rw [w64_of] <;> omega) ⟨rfl, fun q a hq hqa => ?_⟩
        by_cases eq : q = j
        · subst eq
          rw [hy] at hqa; cases hqa
          intro hbad
          have := hb2.2 hbad
          have e : b = false := e
          rw [e] at this; cases this
        · exact hP q a (by omega) hqa
      refine ⟨bnd1, ?_⟩
      rw [ea]
      refine ⟨bnd2, ⟨cWho y, w1, cWho x, w2, fun e => ?_, fun e => ?_⟩⟩
      · have e : cWho y = cWho x := of_decide_eq_true e
        refine ⟨bnd1, ⟨cEn y, e1, fun f => ?_, fun f => ?_⟩⟩
        · have f : cEn y = -1 := of_decide_eq_true f
          exact j2 true ⟨fun _ => ⟨e, .inl f⟩, fun _ => rfl⟩
        · have f : ¬ cEn y = -1 := of_decide_eq_false f
          refine ⟨bnd1, bnd2, ⟨cEn y, e1, cBg x, b2, ?_⟩⟩
          refine j2 _ ⟨fun q => ⟨e, .inr (of_decide_eq_true q)⟩, fun q => decide_eq_true (q.2.resolve_left f)⟩
      · have e : ¬ cWho y = cWho x := of_decide_eq_false e
        exact j2 false ⟨fun q => (by cases q), fun q => absurd q.1 e⟩
    · have d : ¬ (j : Int) < (i : Int) := of_decide_eq_false d
      have : j = i := by omega
      subst this
      exact hgo c' _ _ (by show w64 ((j : Int) + 1) = _; rw [w64_of] <;> omega) ⟨rfl, hH.succ hx hs hP⟩
  · have c : ¬ (i : Int) < (calls.len : Int) := of_decide_eq_false c
    have : i = cs.length := by omega
    subst this
    exact hQ true ⟨fun _ => hH, fun _ => rfl⟩

end Go.Mx
