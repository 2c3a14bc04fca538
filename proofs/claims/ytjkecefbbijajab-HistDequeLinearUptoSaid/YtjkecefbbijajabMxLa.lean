/-
  Calls taken by themselves: the program's view and the reference's are the same.
  hist's histories are the reference's.
  Orders: the plain law, and the reference's replay.
  hist.Legal: the plain law.
-/
import Derived.Test.YtjkecefbbijajabMxX
set_option linter.unusedVariables false
set_option linter.unusedSimpArgs false
namespace Go.Mx

def May (kind code : Int) : Prop := (kind = 0 ∧ (code = 2 ∨ code = 3)) ∨ (kind = 1 ∧ (code = 4 ∨ code = 5)) ∨ (kind ≠ 0 ∧ kind ≠ 1 ∧ (code = 4 ∨ code = 5 ∨ code = 6))
def SoundI (who kind bg en code : Int) : Prop :=
  (0 ≤ who ∧ who ≤ 3) ∧ 0 ≤ bg ∧ (who = 0 → kind = 0 ∨ kind = 1) ∧ (0 < who → kind = 2) ∧ ((code = 0 ∧ en = -1) ∨ (code ≠ 0 ∧ bg ≤ en ∧ May kind code))
def Sound (c : Cl) : Prop := SoundI c.1 c.2.1 c.2.2.2.1 c.2.2.2.2.1 c.2.2.2.2.2.1

theorem may_spec {kind code : Int} {h : Heap} {Q : Bool → Heap → Prop} (hQ : ∀ b : Bool, (b = true ↔ May kind code) → Q b h) : hist_may.M kind code h Q := by
  unfold hist_may.M
  unfold May at hQ
  repeat' (first | apply And.intro | intro e)
  all_goals
    refine hQ _ ?_
    try simp only [decide_eq_true_eq, decide_eq_false_iff_not, true_iff, false_iff, Bool.false_eq_true] at *
    omega

theorem sound_spec {c : Cl} {h : Heap} {c1 : Int → Int → Heap → (Bool → Heap → Prop) → Prop} (i1 : ∀ {a b h Q}, hist_may.M a b h Q → c1 a b h Q) {Q : Bool → Heap → Prop} (hQ : ∀ b : Bool, (b = true ↔ Sound c) → Q b h) : hist_sound.M c1 c h Q := by
  obtain ⟨who, kind, arg, bg, en, code, v, u⟩ := c
  change Int at who kind arg bg en code v
  unfold hist_sound.M hist_sound.j6 hist_sound.j5 hist_sound.j4 hist_sound.j3 hist_sound.j2 hist_sound.j1
  dsimp only [Den]
  have hmay : ∀ b : Bool, (b = true ↔ May kind code) → code ≠ 0 → bg ≤ en → (0 ≤ who ∧ who ≤ 3) → 0 ≤ bg → (who = 0 → kind = 0 ∨ kind = 1) → (0 < who → kind = 2) → Q b h := by
    intro b hb q1 q2 q3 q4 q5 q6
    refine hQ b (hb.trans ⟨fun m => ⟨q3, q4, q5, q6, .inr ⟨q1, q2, m⟩⟩, fun m => ?_⟩)
    rcases m.2.2.2.2 with x | x
    · exact absurd x.1 q1
    · exact x.2.2
  have hQ : ∀ b : Bool, (b = true ↔ SoundI who kind bg en code) → Q b h := hQ
  unfold SoundI May at hQ
  repeat' (first | apply And.intro | intro e)
  all_goals first
    | (refine i1 (may_spec fun b hb => hmay b hb ?_ ?_ ?_ ?_ ?_ ?_) <;> clear hb hQ hmay i1 <;> simp only [decide_eq_true_eq, decide_eq_false_iff_not, reduceCtorEq] at * <;> omega)
    | (refine hQ _ ?_; clear hQ hmay i1; simp only [decide_eq_true_eq, decide_eq_false_iff_not, Bool.false_eq_true, reduceCtorEq, false_iff, true_iff] at * <;> omega)

theorem mayA_spec {kind code : Int} {h : Heap} {Q : Bool → Heap → Prop} (hQ : ∀ b : Bool, (b = true ↔ May kind code) → Q b h) : ref4_mayAnswer.M kind code h Q := may_spec hQ

theorem single_spec {c : Cl} {h : Heap} {c1 : Int → Int → Heap → (Bool → Heap → Prop) → Prop} (i1 : ∀ {a b h Q}, ref4_mayAnswer.M a b h Q → c1 a b h Q) {Q : Bool → Heap → Prop} (hQ : ∀ b : Bool, (b = true ↔ Sound c) → Q b h) : ref4_single.M c1 c h Q := by
  obtain ⟨who, kind, arg, bg, en, code, v, u⟩ := c
  change Int at who kind arg bg en code v
  unfold ref4_single.M ref4_single.j4 ref4_single.j3 ref4_single.j2 ref4_single.j1
  dsimp only [Den]
  have hmay : ∀ b : Bool, (b = true ↔ May kind code) → en ≠ -1 → bg ≤ en → (0 ≤ who ∧ who ≤ 3) → 0 ≤ bg → (who = 0 → kind = 0 ∨ kind = 1) → (0 < who → kind = 2) → Q b h := by
    intro b hb q1 q2 q3 q4 q5 q6
    refine hQ b (hb.trans ⟨fun m => ⟨q3, q4, q5, q6, .inr ⟨?_, q2, m⟩⟩, fun m => ?_⟩)
    · rintro rfl
      unfold May at m
      omega
    · rcases m.2.2.2.2 with x | x
      · exact absurd x.2 q1
      · exact x.2.2
  have hQ : ∀ b : Bool, (b = true ↔ SoundI who kind bg en code) → Q b h := hQ
  unfold SoundI May at hQ
  repeat' (first | apply And.intro | intro e)
  all_goals first
    | (refine i1 (mayA_spec fun b hb => hmay b hb ?_ ?_ ?_ ?_ ?_ ?_) <;> clear hb hQ hmay i1 <;> simp only [decide_eq_true_eq, decide_eq_false_iff_not, reduceCtorEq] at * <;> omega)
    | (refine hQ _ ?_; clear hQ hmay i1; simp only [decide_eq_true_eq, decide_eq_false_iff_not, Bool.false_eq_true, reduceCtorEq, false_iff, true_iff] at * <;> omega)

def cWho (c : Cl) : Int := c.1
def cBg (c : Cl) : Int := c.2.2.2.1
def cEn (c : Cl) : Int := c.2.2.2.2.1
def cCode (c : Cl) : Int := c.2.2.2.2.2.1
theorem sound_facts {c : Cl} (h : Sound c) : (cEn c = -1 ↔ cCode c = 0) ∧ (cEn c ≠ -1 → cBg c ≤ cEn c) ∧ 0 ≤ cWho c ∧ cWho c ≤ 3 ∧ 0 ≤ cBg c := by
  have h : SoundI (cWho c) c.2.1 (cBg c) (cEn c) (cCode c) := h
  unfold SoundI at h
  obtain ⟨h1, h2, _, _, h5⟩ := h
  rcases h5 with ⟨a, b⟩ | ⟨a, b, _⟩
  · exact ⟨by omega, by omega, by omega, by omega, by omega⟩
  · exact ⟨by omega, by omega, by omega, by omega, by omega⟩

/-- 4.1: two calls of one actor that overlap. -/
def Bad2 (a b : Cl) : Prop := cWho a = cWho b ∧ (cEn a = -1 ∨ cBg b ≤ cEn a)
/-- 4.1: the first n calls are a history. -/
def HistN (cs : List Cl) (n : Nat) : Prop := ∀ (i : Nat) b, i < n → cs[i]? = some b → Sound b ∧ ∀ (j : Nat) a, j < i → cs[j]? = some a → ¬ Bad2 a b
theorem HistN.succ {cs : List Cl} {n : Nat} {b : Cl} (h : HistN cs n) (hb : cs[n]? = some b) (hs : Sound b) (hp : ∀ (j : Nat) a, j < n → cs[j]? = some a → ¬ Bad2 a b) : HistN cs (n + 1) := by
  intro i c hi hc
  by_cases e : i = n
  · subst e
    rw [hb] at hc; cases hc
    exact ⟨hs, hp⟩
  · exact h i c (by omega) hc

/-- The fields of an element. -/
theorem cl_cells {h : Heap} {s : Sl} {cs : List Cl} (ha : Arr h kapiCall s cs) {i : Nat} {c : Cl} (hc : cs[i]? = some c) : ∃ a, s.a = some a ∧ cellsAt h ((a.add (i * 7)).add 0) (Kd.cells ki (cWho c)) ∧
    cellsAt h ((a.add (i * 7)).add 3) (Kd.cells ki (cBg c)) ∧ cellsAt h ((a.add (i * 7)).add 4) (Kd.cells ki (cEn c)) ∧ cellsAt h ((a.add (i * 7)).add 5) (Kd.cells ki (cCode c)) := by
  have hi := (List.getElem?_eq_some_iff.1 hc).1
  obtain ⟨a, n, m⟩ := s
  cases a with
  | none => have := ha.2.2; have := ha.1; dsimp only at *; omega
  | some a =>
    have := cellsAt_el ha.2.2 hc
    refine ⟨a, rfl, ?_, ?_, ?_, ?_⟩
    · intro j v hj
      have := this j v (by cases j with | zero => exact hj | succ j => cases hj)
      exact this
    · intro j v hj
      rw [add_add']
      have := this (3 + j) v (by cases j with | zero => exact hj | succ j => cases hj)
      exact this
    · intro j v hj
      rw [add_add']
      have := this (4 + j) v (by cases j with | zero => exact hj | succ j => cases hj)
      exact this
    · intro j v hj
      rw [add_add']
      have := this (5 + j) v (by cases j with | zero => exact hj | succ j => cases hj)
      exact this

theorem rhistory_spec {calls : Sl} {h : Heap} {cs : List Cl} (ha : Arr h kapiCall calls cs) (hn : calls.len ≤ 2097152) {c1 : Cl → Heap → (Bool → Heap → Prop) → Prop} (i1 : ∀ {c : Cl} {h Q}, (∀ b : Bool, (b = true ↔ Sound c) → Q b h) → c1 c h Q)
    {Q : Bool → Heap → Prop} (hQ : ∀ b : Bool, (b = true ↔ HistN cs cs.length) → Q b h) : ref4_History.M c1 calls h Q := by
  have hl : calls.len = cs.length := ha.1.symm
  refine Loop.up calls.len (fun s => s.1) (fun i s h' => h' = h ∧ HistN cs i) rfl ⟨rfl, fun i b hi => absurd hi (Nat.not_lt_zero _)⟩ ?_
  rintro i ⟨j, u⟩ h' go hi hc ⟨rfl, hH⟩ hgo
  dsimp only at hc; subst hc
  refine ⟨fun c => ?_, fun c => ?_⟩
  · have c : (i : Int) < (calls.len : Int) := of_decide_eq_true c
    have c' : i < calls.len := by omega
    have hlt : i < cs.length := by omega
    refine ⟨⟨Int.natCast_nonneg i, c⟩, ha.at (Int.natCast_nonneg i) c rfl ?_⟩
    intro x hx
    rw [Int.toNat_natCast] at hx
    refine i1 fun b hb => ⟨fun f => ?_, fun f => ?_⟩
    · refine hQ false ⟨fun e => (by cases e), fun e => ?_⟩
      have := hb.2 (e i x hlt hx).1
      rw [this] at f; cases f
    have hs : Sound x := hb.1 (by cases b <;> first | rfl | cases f)
    refine Loop.up i (fun s => s.1) (fun j s h'' => h'' = h' ∧ ∀ (q : Nat) a, q < j → cs[q]? = some a → ¬ Bad2 a x) rfl ⟨rfl, fun q a hq => absurd hq (Nat.not_lt_zero _)⟩ ?_
    rintro j ⟨jj, u2⟩ h'' go2 hj hcj ⟨rfl, hP⟩ hgo2
    dsimp only at hcj; subst hcj
    refine ⟨fun d => ?_, fun d => ?_⟩
    · have d : (j : Int) < (i : Int) := of_decide_eq_true d
      have d' : j < i := by omega
      obtain ⟨y, hy⟩ : ∃ y, cs[j]? = some y := ⟨cs[j]'(by omega), by simp⟩
      obtain ⟨a, ea, w1, b1, e1, _⟩ := cl_cells ha hy
      obtain ⟨a', ea', w2, b2, e2, _⟩ := cl_cells ha hx
      rw [ea] at ea'; cases ea'
      have bnd1 : (0 : Int) ≤ (j : Int) ∧ (j : Int) < (calls.len : Int) := ⟨by omega, by omega⟩
      have bnd2 : (0 : Int) ≤ (i : Int) ∧ (i : Int) < (calls.len : Int) := ⟨by omega, by omega⟩
      have j2 : ∀ b : Bool, (b = true ↔ Bad2 y x) → ref4_History.j2 Q go2 ((j : Int), u2) (b, ()) h'' := by
        intro b hb2
        refine ⟨fun e => hQ false ⟨fun q => (by cases q), fun q => absurd (hb2.1 e) ((q i x hlt hx).2 j y d' hy)⟩, fun e => ?_⟩
        refine hgo2 d' _ _ (by show w64 ((j : Int) + 1) = _; rw [w64_of] <;> omega) ⟨rfl, fun q a hq hqa => ?_⟩
        by_cases eq : q = j
        · subst eq
          rw [hy] at hqa; cases hqa
          intro hbad
          have := hb2.2 hbad
          have e : b = false := e
          rw [e] at this; cases this
        · exact hP q a (by omega) hqa
      refine ⟨bnd1, ?_⟩
      rw [ea]
      refine ⟨bnd2, ⟨cWho y, w1, cWho x, w2, fun e => ?_, fun e => ?_⟩⟩
      · have e : cWho y = cWho x := of_decide_eq_true e
        refine ⟨bnd1, ⟨cEn y, e1, fun f => ?_, fun f => ?_⟩⟩
        · have f : cEn y = -1 := of_decide_eq_true f
          exact j2 true ⟨fun _ => ⟨e, .inl f⟩, fun _ => rfl⟩
        · have f : ¬ cEn y = -1 := of_decide_eq_false f
          refine ⟨bnd1, bnd2, ⟨cEn y, e1, cBg x, b2, ?_⟩⟩
          refine j2 _ ⟨fun q => ⟨e, .inr (of_decide_eq_true q)⟩, fun q => decide_eq_true (q.2.resolve_left f)⟩
      · have e : ¬ cWho y = cWho x := of_decide_eq_false e
        exact j2 false ⟨fun q => (by cases q), fun q => absurd q.1 e⟩
    · have d : ¬ (j : Int) < (i : Int) := of_decide_eq_false d
      have : j = i := by omega
      subst this
      exact hgo c' _ _ (by show w64 ((j : Int) + 1) = _; rw [w64_of] <;> omega) ⟨rfl, hH.succ hx hs hP⟩
  · have c : ¬ (i : Int) < (calls.len : Int) := of_decide_eq_false c
    have : i = cs.length := by omega
    subst this
    exact hQ true ⟨fun _ => hH, fun _ => rfl⟩

end Go.Mx

namespace Go.Mx

theorem aget_aset {n : Nat} {a : Kd} (f : Fin n → Den a) {i j : Nat} (hj : j < n) (x : Den a) : aget (aset f i x) j = if j = i then x else aget f j := by
  unfold aget aset
  simp [hj]

/-- The last call of each actor, among the first n. -/
def LastOf (cs : List Cl) (f : Fin 4 → Int) (n : Nat) : Prop := ∀ w : Nat, w < 4 →
  (aget (n := 4) (a := .int .i64) f w = -1 ∧ ∀ (j : Nat) a, j < n → cs[j]? = some a → cWho a ≠ (w : Int)) ∨
  ∃ (k : Nat) (b : Cl), aget (n := 4) (a := .int .i64) f w = (k : Int) ∧ k < n ∧ cs[k]? = some b ∧ cWho b = (w : Int) ∧ ∀ (j : Nat) a, j < n → cs[j]? = some a → cWho a = (w : Int) → j ≤ k

theorem history_spec {calls : Sl} {h : Heap} {cs : List Cl} (ha : Arr h kapiCall calls cs) (hn : calls.len ≤ 2097152) {c1 : Cl → Heap → (Bool → Heap → Prop) → Prop} (i1 : ∀ {c : Cl} {h Q}, (∀ b : Bool, (b = true ↔ Sound c) → Q b h) → c1 c h Q)
    {Q : Bool → Heap → Prop} (hQ : ∀ b : Bool, (b = true ↔ HistN cs cs.length) → Q b h) : hist_history.M c1 calls h Q := by
  have hl : calls.len = cs.length := ha.1.symm
  refine Loop.up 4 (fun s => s.1) (fun i s h' => h' = h ∧ ∀ w : Nat, w < i → aget (n := 4) (a := .int .i64) s.2.1.1 w = -1) rfl ⟨rfl, fun w hw => absurd hw (Nat.not_lt_zero _)⟩ ?_
  rintro i ⟨j, ⟨f, u1⟩, u2⟩ h' go hi hc ⟨rfl, hF⟩ hgo
  dsimp only at hc hF; subst hc
  refine ⟨fun c => ?_, fun c => ?_⟩
  · have c : (i : Int) < 4 := of_decide_eq_true c
    refine ⟨⟨Int.natCast_nonneg i, c⟩, hgo (by omega) _ _ (by show w64 ((i : Int) + 1) = _; rw [w64_of] <;> omega) ⟨rfl, fun w hw => ?_⟩⟩
    dsimp only
    rw [aget_aset _ (by omega)]
    by_cases e : w = i
    · rw [if_pos (by omega)]
    · rw [if_neg (by simpa using e)]
      exact hF w (by omega)
  have c : ¬ (i : Int) < 4 := of_decide_eq_false c
  have hL0 : LastOf cs f 0 := fun w hw => .inl ⟨hF w (by omega), fun j a hj => absurd hj (Nat.not_lt_zero _)⟩
  clear hgo c hi hF
  refine Loop.up calls.len (fun s => s.1) (fun i s h'' => h'' = h' ∧ HistN cs i ∧ LastOf cs s.2.1.1 i) rfl ⟨rfl, fun i b hi => absurd hi (Nat.not_lt_zero _), hL0⟩ ?_
  clear hL0
  rintro i ⟨j, ⟨f, u3⟩, u4⟩ h'' go hi hc ⟨rfl, hH, hL⟩ hgo
  dsimp only at hc hL; subst hc
  refine ⟨fun c => ?_, fun c => ?_⟩
  · have c : (i : Int) < (calls.len : Int) := of_decide_eq_true c
    have c' : i < calls.len := by omega
    have hlt : i < cs.length := by omega
    refine ⟨⟨Int.natCast_nonneg i, c⟩, ha.at (Int.natCast_nonneg i) c rfl ?_⟩
    intro x hx
    rw [Int.toNat_natCast] at hx
    refine i1 fun b hb => ⟨fun e => ?_, fun e => ?_⟩
    · refine hQ false ⟨fun e => (by cases e), fun q => ?_⟩
      have := hb.2 (q i x hlt hx).1
      rw [this] at e; cases e
    have hs : Sound x := hb.1 (by cases b <;> first | rfl | cases e)
    obtain ⟨s1, s2, s3, s4, s5⟩ := sound_facts hs
    obtain ⟨w, hw⟩ : ∃ w : Nat, cWho x = (w : Int) := ⟨(cWho x).toNat, by omega⟩
    have hx1 : (x.1 : Int) = (w : Int) := hw
    have hw4 : w < 4 := by omega
    have done : (∀ (q : Nat) a, q < i → cs[q]? = some a → ¬ Bad2 a x) → hist_history.j2 go ((i : Int), ((f, u3), u4)) x () h'' := by
      intro hp
      refine ⟨⟨by show (0 : Int) ≤ cWho x; omega, by show cWho x < (4 : Int); omega⟩, ?_⟩
      refine hgo c' _ _ (by show w64 ((i : Int) + 1) = _; rw [w64_of] <;> omega) ⟨rfl, hH.succ hx hs hp, ?_⟩
      intro v hv
      dsimp only
      rw [aget_aset _ hv]
      have e1 : (x.1 : Int).toNat = w := by rw [hx1]; rfl
      rw [e1]
      by_cases ev : v = w
      · subst ev
        rw [if_pos rfl]
        exact .inr ⟨i, x, rfl, by omega, hx, hw, fun j a hj _ _ => by omega⟩
      · rw [if_neg ev]
        rcases hL v hv with ⟨p1, p2⟩ | ⟨k, b', p1, p2, p3, p4, p5⟩
        · refine .inl ⟨p1, fun j a hj hja => ?_⟩
          by_cases ej : j = i
          · subst ej; rw [hx] at hja; cases hja; omega
          · exact p2 j a (by omega) hja
        · refine .inr ⟨k, b', p1, by omega, p3, p4, fun j a hj hja hwa => ?_⟩
          by_cases ej : j = i
          · subst ej; rw [hx] at hja; cases hja; omega
          · exact p5 j a (by omega) hja hwa
    have j3 : ∀ b : Bool, (b = true → ¬ HistN cs cs.length) → (b = false → ∀ (q : Nat) a, q < i → cs[q]? = some a → ¬ Bad2 a x) → hist_history.j3 Q go ((i : Int), ((f, u3), u4)) x (b, ()) h'' := by
      intro b g1 g2
      exact ⟨fun e => hQ false ⟨fun q => (by cases q), fun q => absurd q (g1 e)⟩, fun e => done (g2 e)⟩
    have e1 : (x.1 : Int).toNat = w := by rw [hx1]; rfl
    refine ⟨⟨by show (0 : Int) ≤ cWho x; omega, by show cWho x < (4 : Int); omega⟩, ?_⟩
    dsimp only
    rw [e1]
    rcases hL w hw4 with ⟨p1, p2⟩ | ⟨k, b', p1, p2, p3, p4, p5⟩
    · rw [p1]
      refine ⟨fun e => (by cases e), fun _ => j3 false (fun q => (by cases q)) fun _ q a hq hqa hbad => p2 q a hq hqa ?_⟩
      rw [hbad.1]; exact hw
    · rw [p1]
      obtain ⟨a, ea, _, _, en, cd⟩ := cl_cells ha p3
      have bnd : (0 : Int) ≤ (k : Int) ∧ (k : Int) < (calls.len : Int) := ⟨by omega, by omega⟩
      have hk := hH k b' p2 p3
      obtain ⟨t1, t2, t3, t4, t5⟩ := sound_facts hk.1
      have bad : Bad2 b' x → ¬ HistN cs cs.length := fun hb2 q => (q i x hlt hx).2 k b' p2 p3 hb2
      have good : ¬ Bad2 b' x → ∀ (q : Nat) a, q < i → cs[q]? = some a → ¬ Bad2 a x := by
        intro nb q a hq hqa hbad
        have hwa : cWho a = (w : Int) := by rw [hbad.1]; exact hw
        have hqk := p5 q a hq hqa hwa
        by_cases eq : q = k
        · subst eq
          rw [p3] at hqa; cases hqa
          exact nb hbad
        · have h1 : ¬ Bad2 a b' := hk.2 q a (by omega) hqa
          unfold Bad2 at nb h1 hbad
          have e2 : cWho a = cWho b' := by rw [hwa, p4]
          have e3 : cWho b' = cWho x := by rw [p4, hw]
          omega
      refine ⟨fun _ => ⟨bnd, ?_⟩, fun e => absurd (of_decide_eq_false e) (fun q => q (Int.natCast_nonneg k))⟩
      rw [ea]
      refine ⟨cCode b', cd, fun e => ?_, fun e => ?_⟩
      · have e : cCode b' = 0 := of_decide_eq_true e
        exact j3 true (fun _ => bad ⟨by rw [p4, hw], .inl (t1.2 e)⟩) (fun q => by cases q)
      · have e : ¬ cCode b' = 0 := of_decide_eq_false e
        refine ⟨bnd, cEn b', en, ?_⟩
        refine j3 _ (fun q => bad ⟨by rw [p4, hw], .inr (of_decide_eq_true q)⟩) (fun q => good fun hb2 => ?_)
        have q : ¬ cBg x ≤ cEn b' := of_decide_eq_false q
        exact hb2.2.elim (fun r => e (t1.1 r)) q
  · have c : ¬ (i : Int) < (calls.len : Int) := of_decide_eq_false c
    have : i = cs.length := by omega
    subst this
    exact hQ true ⟨fun _ => hH, fun _ => rfl⟩

end Go.Mx

namespace Go.Mx

def Ahead (x y : Cl) : Prop := 0 ≤ cEn x ∧ cEn x < cBg y
/-- Behind n steps of the order the deque holds xs. -/
def StepsTo (cs : List Cl) (most : Int) (os : List Int) : Nat → List Int → Prop
  | 0, xs => xs = []
  | n + 1, xs => ∃ ys k c, StepsTo cs most os n ys ∧ os[n]? = some k ∧ 0 ≤ k ∧ cs[k.toNat]? = some c ∧ (∀ j, j < n → os[j]? ≠ some k) ∧ doL ys c most = (xs, true)
theorem StepsTo.det {cs : List Cl} {most : Int} {os : List Int} : ∀ {n : Nat} {xs ys : List Int}, StepsTo cs most os n xs → StepsTo cs most os n ys → xs = ys
  | 0, _, _, a, b => a.trans b.symm
  | n + 1, xs, ys, ⟨x, k, c, a1, a2, a3, a4, a5, a6⟩, ⟨y, k', c', b1, b2, b3, b4, b5, b6⟩ => by
    obtain rfl := StepsTo.det a1 b1
    rw [a2] at b2; cases b2
    rw [a4] at b4; cases b4
    rw [a6] at b6
    exact congrArg Prod.fst b6
theorem StepsTo.down {cs : List Cl} {most : Int} {os : List Int} : ∀ {m n : Nat} {xs : List Int}, StepsTo cs most os m xs → n ≤ m → ∃ ys, StepsTo cs most os n ys
  | 0, n, xs, h, hn => ⟨xs, by rw [show n = 0 from by omega]; exact h⟩
  | m + 1, n, xs, h, hn => by
    by_cases e : n = m + 1
    · subst e; exact ⟨xs, h⟩
    · obtain ⟨ys, k, c, a1, _⟩ := h
      exact a1.down (by omega)
theorem StepsTo.at {cs : List Cl} {most : Int} {os : List Int} : ∀ {n : Nat} {xs : List Int}, StepsTo cs most os n xs → ∀ j, j < n → ∃ k c, os[j]? = some k ∧ 0 ≤ k ∧ cs[k.toNat]? = some c
  | n + 1, xs, ⟨ys, k, c, a1, a2, a3, a4, _⟩, j, hj => by
    by_cases e : j = n
    · subst e; exact ⟨k, c, a2, a3, a4⟩
    · exact a1.at j (by omega)
/-- No call stands behind one that it must be ahead of. -/
def PairsL (cs : List Cl) (os : List Int) (n : Nat) : Prop := ∀ (p q : Nat) kp kq a b, p < q → q < n → os[p]? = some kp → os[q]? = some kq → cs[kp.toNat]? = some a → cs[kq.toNat]? = some b → ¬ Ahead b a
def Ended (cs : List Cl) (os : List Int) (n : Nat) : Prop := ∀ (i : Nat) c, i < n → cs[i]? = some c → 0 ≤ cEn c → ∃ p : Nat, os[p]? = some (i : Int)
def LegalL (cs : List Cl) (most : Int) (os : List Int) : Prop := (∃ xs, StepsTo cs most os os.length xs) ∧ PairsL cs os os.length ∧ Ended cs os cs.length

def SeenOf (os : List Int) (n : Nat) (bs : List Bool) : Prop := ∀ (i : Nat) b, bs[i]? = some b → (b = true ↔ ∃ p, p < n ∧ os[p]? = some (i : Int))

theorem ahead_spec {x y : Cl} {h : Heap} {Q : Bool → Heap → Prop} (hQ : ∀ b : Bool, (b = true ↔ Ahead x y) → Q b h) : ref4_ahead.M x y h Q := by
  refine ⟨fun e => ?_, fun e => ?_⟩
  · have e : 0 ≤ cEn x := of_decide_eq_true e
    exact hQ _ ⟨fun q => ⟨e, of_decide_eq_true q⟩, fun q => decide_eq_true q.2⟩
  · have e : ¬ 0 ≤ cEn x := of_decide_eq_false e
    exact hQ _ ⟨fun q => (by cases q), fun q => absurd q.1 e⟩

theorem doL_len1 (xs : List Int) (c : Cl) (most : Int) : (doL xs c most).1.length ≤ xs.length + 1 := by
  unfold doL
  repeat' split
  all_goals simp
  all_goals omega

theorem replay_spec2 {calls order : Sl} {most : Int} {h : Heap} {cs : List Cl} {os : List Int} (ha : Arr h kapiCall calls cs) (ho : Arr h ki order os) (hn : calls.len ≤ 40) (hm : order.len ≤ 2097152)
    {c1 : Cl → Cl → Heap → (Bool → Heap → Prop) → Prop} {c2 : Sl → Cl → Int → Heap → ((Sl × (Bool × Unit)) → Heap → Prop) → Prop} (i1 : ∀ {a b h Q}, ref4_ahead.M a b h Q → c1 a b h Q) (i2 : ∀ {a b c h Q}, ref4_Do.M a b c h Q → c2 a b c h Q)
    {Q : (Sl × (Bool × Unit)) → Heap → Prop} (hQ : ∀ r (b : Bool) h', (b = true ↔ LegalL cs most os) → (b = true → ∃ xs, StepsTo cs most os os.length xs ∧ Arr h' ki r xs) → le h h' → Q (r, b, ()) h') : ref4_Replay.M c1 c2 calls most order h Q := by
  have hl : calls.len = cs.length := ha.1.symm
  have hlo : order.len = os.length := ho.1.symm
  refine make_new (by omega) (by omega) (by omega) (by omega) fun s5 h1 hN es _ _ => ?_
  rw [Int.toNat_natCast] at hN es
  refine Loop.up order.len (fun s => s.2.1) (fun n s k => ∃ xs bs, StepsTo cs most os n xs ∧ PairsL cs os n ∧ Arr k ki s.1 xs ∧ New h k .bool s5 bs ∧ bs.length = cs.length ∧ SeenOf os n bs ∧ (xs ≠ [] → ∀ b, blkOf s.1 b → ¬ blkOf s5 b) ∧ xs.length ≤ n) rfl
    ⟨[], _, rfl, fun p q kp kq a b hpq hq => absurd hq (Nat.not_lt_zero _), (New.nil h1 ki).arr, hN, by simp [hl], fun i b hb => ?_, fun q => absurd rfl q, Nat.le_refl _⟩ ?_
  · have : b = false := by
      rw [List.getElem?_replicate] at hb
      split at hb
      · exact (Option.some.inj hb).symm
      · cases hb
    subst this
    exact ⟨fun q => (by cases q), fun ⟨p, hp, _⟩ => absurd hp (Nat.not_lt_zero _)⟩
  rintro n ⟨row, j, u⟩ k go hi hc ⟨xs, bs, hS, hP, hA, hB, hbl, hSeen, hap, hxl⟩ hgo
  dsimp only at hc hA hap; subst hc
  have bad : (∀ x ys, ¬ (StepsTo cs most os (n + 1) ys)) → n < os.length → ¬ LegalL cs most os := fun hb hlt q => by
    obtain ⟨⟨zs, hz⟩, _⟩ := q
    obtain ⟨ys, hy⟩ := hz.down (n := n + 1) (by omega)
    exact hb xs ys hy
  have hle := hB.le
  refine ⟨fun c => ?_, fun c => ?_⟩
  · have c : (n : Int) < (order.len : Int) := of_decide_eq_true c
    have c' : n < order.len := by omega
    have hlt : n < os.length := by omega
    refine ⟨⟨Int.natCast_nonneg n, c⟩, (ho.le hle).at (Int.natCast_nonneg n) c rfl ?_⟩
    intro t ht
    rw [Int.toNat_natCast] at ht
    change Int at t
    have no : ∀ r, ¬ LegalL cs most os → Q (r, false, ()) k := fun r hb => hQ r false k ⟨fun q => (by cases q), fun q => absurd q hb⟩ (fun q => by cases q) hle
    -- a number that is none, or stands there twice
    refine ⟨fun e => ?_, fun e => ?_⟩
    · have e : t < 0 := of_decide_eq_true e
      refine ⟨fun _ => no _ (bad (fun _ ys hy => ?_) hlt), fun q => (by cases q)⟩
      obtain ⟨_, k', _, _, b2, b3, _⟩ := hy
      rw [ht] at b2; cases b2
      omega
    have e : ¬ t < 0 := of_decide_eq_false e
    refine ⟨fun f => ?_, fun f => ?_⟩
    · have f : (calls.len : Int) ≤ t := of_decide_eq_true f
      refine ⟨fun _ => no _ (bad (fun _ ys hy => ?_) hlt), fun q => (by cases q)⟩
      obtain ⟨_, k', _, _, b2, b3, b4, _⟩ := hy
      rw [ht] at b2; cases b2
      have := (List.getElem?_eq_some_iff.1 b4).1
      omega
    have f : ¬ (calls.len : Int) ≤ t := of_decide_eq_false f
    obtain ⟨m, rfl⟩ : ∃ m : Nat, t = (m : Int) := ⟨t.toNat, by omega⟩
    have hml : m < cs.length := by omega
    obtain ⟨x, hx⟩ : ∃ x, cs[m]? = some x := ⟨cs[m], by simp [hml]⟩
    have hs5 : s5.len = cs.length := by omega
    have hbl5 := hB.len
    have b5 : (0 : Int) ≤ (m : Int) ∧ (m : Int) < (s5.len : Int) := ⟨by omega, by omega⟩
    refine ⟨b5, hB.arr.at b5.1 b5.2 rfl fun y hy => ?_⟩
    rw [Int.toNat_natCast] at hy
    have hseen := hSeen m y hy
    refine ⟨fun g => no _ (bad (fun _ ys hy2 => ?_) hlt), fun g => ?_⟩
    · obtain ⟨p, hp1, hp2⟩ := hseen.1 g
      obtain ⟨_, k', _, _, b2, _, _, b5, _⟩ := hy2
      rw [ht] at b2; cases b2
      exact b5 p hp1 hp2
    have hfresh : ∀ j, j < n → os[j]? ≠ some (m : Int) := fun j hj hje => by
      have := hseen.2 ⟨j, hj, hje⟩
      have g : y = false := g
      rw [g] at this; cases this
    have hm0 : ((m : Int)).toNat = m := Int.toNat_natCast m
    have bm : (0 : Int) ≤ (m : Int) ∧ (m : Int) < (calls.len : Int) := ⟨by omega, by omega⟩
    refine Loop.up n (fun s => s.1) (fun j s k' => k' = k ∧ ∀ (p : Nat) kp a, p < j → os[p]? = some kp → cs[kp.toNat]? = some a → ¬ Ahead x a) rfl ⟨rfl, fun p kp a hp => absurd hp (Nat.not_lt_zero _)⟩ ?_
    rintro j ⟨jj, u2⟩ k' go2 hj hcj ⟨rfl, hPj⟩ hgo2
    dsimp only at hcj; subst hcj
    refine ⟨fun d => ?_, fun d => ?_⟩
    · have d : (j : Int) < (n : Int) := of_decide_eq_true d
      have d' : j < n := by omega
      obtain ⟨kj, z, z1, z2, z3⟩ := hS.at j d'
      refine ⟨bm, ?_⟩
      have A1 := ha.le hle
      have A2 := ho.le hle
      have q1 := A1.2.2
      have q2 := A2.2.2
      revert q1 q2
      cases ea : calls.a with
      | none => intro q1 q2; exfalso; dsimp only at q1; omega
      | some a1 =>
      cases eo : order.a with
      | none => intro q1 q2; exfalso; dsimp only at q2; omega
      | some a2 =>
      intro q1 q2
      have hkz := (List.getElem?_eq_some_iff.1 z3).1
      have bkj : (0 : Int) ≤ kj ∧ kj < (calls.len : Int) := ⟨z2, by omega⟩
      have bj : (0 : Int) ≤ (j : Int) ∧ (j : Int) < (order.len : Int) := ⟨by omega, by omega⟩
      refine ⟨bj, ⟨x, ?_, kj, ?_, bkj, ⟨z, ?_, i1 (ahead_spec fun b hb => ⟨fun e => ?_, fun e => ?_⟩)⟩⟩⟩
      · rw [hm0]; exact cellsAt_el q1 hx
      · exact cellsAt_el (k := ki) q2 z1
      · exact cellsAt_el q1 z3
      · exact no _ fun q => q.2.1 j n kj (m : Int) z x d' hlt z1 ht z3 (by rw [hm0]; exact hx) (hb.1 e)
      · refine hgo2 d' _ _ (by show w64 ((j : Int) + 1) = _; rw [w64_of] <;> omega) ⟨rfl, fun p kp a hp hpk hpa => ?_⟩
        by_cases ep : p = j
        · subst ep
          rw [z1] at hpk; cases hpk
          rw [z3] at hpa; cases hpa
          intro q
          rw [hb.2 q] at e; cases e
        · exact hPj p kp a (by omega) hpk hpa
    have d : ¬ (j : Int) < (n : Int) := of_decide_eq_false d
    have ejn : j = n := by omega
    subst ejn
    refine ⟨b5, hB.own.set (i := (m : Int)) b5.1 b5.2 rfl rfl fun k2 q1 q2 => ?_⟩
    rw [hm0] at q1
    have hle2 : le h k2 := le_ext hle q2 hB.new
    have hA2 : Arr k2 ki row xs := hA.ext' q2 hap
    have hB2 : New h k2 .bool s5 (bs.set m true) := ⟨q1, by rw [List.length_set]; exact hB.len, hle2, hB.new⟩
    refine ⟨bm, (ha.le hle2).at bm.1 bm.2 rfl fun x' hx' => ?_⟩
    rw [hm0, hx] at hx'; cases hx'
    have hrl : row.len ≤ 2097152 := by rw [← hA.1]; omega
    refine i2 (do_spec hA2 hrl fun l b s k3 e1 hA3 hle3 hb3 => ?_)
    have hB3 := hB2.more hle3
    refine ⟨fun e => ?_, fun e => ?_⟩
    · refine hQ _ false k3 ⟨fun q => (by cases q), fun q => absurd q (bad (fun _ ys hy2 => ?_) hlt)⟩ (fun q => by cases q) (hle2.trans hle3)
      obtain ⟨ys', k', c', b1, b2, _, b4, _, b6⟩ := hy2
      rw [ht] at b2; cases b2
      rw [hm0, hx] at b4; cases b4
      rw [b1.det hS, e1] at b6
      have : b = true := congrArg Prod.snd b6
      rw [this] at e; cases e
    · have hb : b = true := by cases b <;> first | rfl | cases e
      subst hb
      have hll : l.length ≤ j + 1 := by
        have := doL_len1 xs x most
        rw [e1] at this
        exact Nat.le_trans this (by omega)
      refine hgo c' _ _ (by show w64 ((j : Int) + 1) = _; rw [w64_of] <;> omega) ⟨l, _, ⟨xs, m, x, hS, ht, by omega, by rw [hm0]; exact hx, hfresh, e1⟩, ?_, hA3, hB3, by rw [List.length_set]; exact hbl, ?_, ?_, hll⟩
      · intro p q kp kq a b hpq hq hp1 hq1 hp2 hq2
        by_cases eq : q = j
        · subst eq
          rw [ht] at hq1; cases hq1
          rw [hm0, hx] at hq2; cases hq2
          exact hPj p kp a hpq hp1 hp2
        · exact hP p q kp kq a b hpq (by omega) hp1 hq1 hp2 hq2
      · intro i b hb
        rw [List.getElem?_set] at hb
        by_cases ei : m = i
        · subst ei
          rw [if_pos rfl, if_pos (by omega)] at hb
          cases hb
          exact ⟨fun _ => ⟨j, Nat.lt_succ_self _, ht⟩, fun _ => rfl⟩
        · rw [if_neg ei] at hb
          refine (hSeen i b hb).trans ⟨fun ⟨p, p1, p2⟩ => ⟨p, by omega, p2⟩, fun ⟨p, p1, p2⟩ => ?_⟩
          by_cases ep : p = j
          · subst ep
            rw [ht] at p2
            exact absurd (Int.ofNat_inj.1 (Option.some.inj p2)) ei
          · exact ⟨p, by omega, p2⟩
      · intro hne b hb1 hb2
        rcases hb3 b hne hb1 with q | q
        · exact hap q.1 b q.2 hb2
        · exact hB2.own.blk hb2 q
  · have c : ¬ (n : Int) < (order.len : Int) := of_decide_eq_false c
    have en : n = os.length := by omega
    subst en
    refine Loop.up calls.len (fun s => s.1) (fun i s k' => k' = k ∧ Ended cs os i) rfl ⟨rfl, fun i c hi => absurd hi (Nat.not_lt_zero _)⟩ ?_
    rintro i ⟨jj, u2⟩ k' go2 hi2 hcj ⟨rfl, hE⟩ hgo2
    dsimp only at hcj; subst hcj
    refine ⟨fun d => ?_, fun d => ?_⟩
    · have d : (i : Int) < (calls.len : Int) := of_decide_eq_true d
      have d' : i < calls.len := by omega
      have hil : i < cs.length := by omega
      obtain ⟨x, hx⟩ : ∃ x, cs[i]? = some x := ⟨cs[i], by simp [hil]⟩
      obtain ⟨a, ea, _, _, en, _⟩ := cl_cells (ha.le hle) hx
      have j6 : ∀ b : Bool, (b = true → ¬ LegalL cs most os) → (b = false → Ended cs os (i + 1)) → ref4_Replay.j6 Q go2 ((i : Int), u2) (b, ()) k' := fun b g1 g2 =>
        ⟨fun e => hQ _ false k' ⟨fun q => (by cases q), fun q => absurd q (g1 e)⟩ (fun q => by cases q) hle, fun e => hgo2 d' _ _ (by show w64 ((i : Int) + 1) = _; rw [w64_of] <;> omega) ⟨rfl, g2 e⟩⟩
      have ext : (0 ≤ cEn x → ∃ p : Nat, os[p]? = some (i : Int)) → Ended cs os (i + 1) := fun g i' c hi' hc' hen => by
        by_cases ei : i' = i
        · subst ei; rw [hx] at hc'; cases hc'; exact g hen
        · exact hE i' c (by omega) hc' hen
      refine ⟨⟨by omega, d⟩, ?_⟩
      rw [ea]
      refine ⟨cEn x, en, fun e => ?_, fun e => ?_⟩
      · have e : 0 ≤ cEn x := of_decide_eq_true e
        have hs5 : s5.len = cs.length := by omega
        have hbl5 := hB.len
        have bi : (0 : Int) ≤ (i : Int) ∧ (i : Int) < (s5.len : Int) := ⟨by omega, by omega⟩
        refine ⟨bi, hB.arr.at (i := (i : Int)) bi.1 bi.2 rfl fun y hy => ?_⟩
        rw [Int.toNat_natCast] at hy
        have hseen := hSeen i y hy
        refine j6 _ (fun q r => ?_) (fun q => ext fun _ => ?_)
        · obtain ⟨p, hp⟩ := r.2.2 i x hil hx e
          have := hseen.2 ⟨p, (List.getElem?_eq_some_iff.1 hp).1, hp⟩
          rw [this] at q; cases q
        · obtain ⟨p, _, hp⟩ := hseen.1 (by cases y <;> first | rfl | cases q)
          exact ⟨p, hp⟩
      · have e : ¬ 0 ≤ cEn x := of_decide_eq_false e
        exact j6 false (fun q => by cases q) (fun _ => ext fun q => absurd q e)
    · have d : ¬ (i : Int) < (calls.len : Int) := of_decide_eq_false d
      have ei : i = cs.length := by omega
      subst ei
      exact hQ _ true k' ⟨fun _ => ⟨⟨xs, hS⟩, hP, hE⟩, fun _ => rfl⟩ (fun _ => ⟨xs, hS, hA⟩) hle

theorem replay_spec {calls order : Sl} {most : Int} {h : Heap} {cs : List Cl} {os : List Int} (ha : Arr h kapiCall calls cs) (ho : Arr h ki order os) (hn : calls.len ≤ 40) (hm : order.len ≤ 2097152)
    {c1 : Cl → Cl → Heap → (Bool → Heap → Prop) → Prop} {c2 : Sl → Cl → Int → Heap → ((Sl × (Bool × Unit)) → Heap → Prop) → Prop} (i1 : ∀ {a b h Q}, ref4_ahead.M a b h Q → c1 a b h Q) (i2 : ∀ {a b c h Q}, ref4_Do.M a b c h Q → c2 a b c h Q)
    {Q : (Sl × (Bool × Unit)) → Heap → Prop} (hQ : ∀ r (b : Bool) h', (b = true ↔ LegalL cs most os) → le h h' → Q (r, b, ()) h') : ref4_Replay.M c1 c2 calls most order h Q :=
  replay_spec2 ha ho hn hm i1 i2 fun r b h' q1 _ q2 => hQ r b h' q1 q2

end Go.Mx

namespace Go.Mx

theorem does_do2 (xs : List Int) (c : Cl) (most : Int) (hs : Sound c) : (doesL xs c most).2 = (doL xs c most).2 ∧ ((doL xs c most).2 = true → (doesL xs c most).1 = (doL xs c most).1) := by
  obtain ⟨who, kind, arg, bg, en, code, v, u⟩ := c
  change Int at who kind arg bg en code v
  have hs : SoundI who kind bg en code := hs
  unfold SoundI May at hs
  have hk : (code = 0 ∨ code = 2 ∨ code = 3 ∨ code = 4 ∨ code = 5 ∨ code = 6) ∧ (kind = 0 ∨ kind = 1 ∨ kind = 2) ∧ (code = 2 ∨ code = 3 → kind = 0) ∧ (code = 4 ∨ code = 5 ∨ code = 6 → kind ≠ 0) := by omega
  unfold doesL doL
  dsimp only [Den]
  obtain ⟨h1, h2, h3, h4⟩ := hk
  rcases h1 with rfl | rfl | rfl | rfl | rfl | rfl <;> rcases h2 with rfl | rfl | rfl <;> simp at h3 h4 ⊢
  all_goals first
    | done
    | (by_cases q : most ≤ (xs.length : Int) <;> simp [q] <;> omega)
    | (by_cases q : xs = [] <;> simp [q])

def AtOf (os : List Int) (n : Nat) (vs : List Int) : Prop := ∀ (i : Nat) v, vs[i]? = some v → (0 < v → ∃ p : Nat, p < n ∧ os[p]? = some (i : Int) ∧ v = (p : Int) + 1) ∧ (∀ p : Nat, p < n → os[p]? = some (i : Int) → v = (p : Int) + 1) ∧ 0 ≤ v

def FinalI (cs : List Cl) (os : List Int) (n : Nat) : Prop := ∀ (i : Nat) x, i < n → cs[i]? = some x → cCode x ≠ 0 → (∃ p : Nat, os[p]? = some (i : Int)) ∧
  ∀ (j : Nat) y, cs[j]? = some y → cEn x < cBg y → ∀ p q : Nat, os[p]? = some (i : Int) → os[q]? = some (j : Int) → p ≤ q

theorem legal_iff {cs : List Cl} {most : Int} {os : List Int} (hH : HistN cs cs.length) {xs : List Int} (hS : StepsTo cs most os os.length xs) : FinalI cs os cs.length ↔ LegalL cs most os := by
  refine ⟨fun hF => ⟨⟨xs, hS⟩, ?_, ?_⟩, fun hL => ?_⟩
  · intro p q kp kq a b hpq hq hp1 hq1 hpa hqb hah
    have hkq : 0 ≤ kq := by obtain ⟨k, c, e1, e2, _⟩ := hS.at q hq; rw [hq1] at e1; cases e1; exact e2
    have hkp : 0 ≤ kp := by obtain ⟨k, c, e1, e2, _⟩ := hS.at p (by omega); rw [hp1] at e1; cases e1; exact e2
    have hlt := (List.getElem?_eq_some_iff.1 hqb).1
    obtain ⟨t1, t2, t3, t4, t5⟩ := sound_facts (hH kq.toNat b hlt hqb).1
    obtain ⟨h1, h2⟩ := hah
    have hcode : cCode b ≠ 0 := fun e => by have := t1.2 e; omega
    have := (hF kq.toNat b hlt hqb hcode).2 kp.toNat a hpa h2 q p (by rw [Int.toNat_of_nonneg hkq]; exact hq1) (by rw [Int.toNat_of_nonneg hkp]; exact hp1)
    omega
  · intro i c hi hc hen
    obtain ⟨t1, t2, t3, t4, t5⟩ := sound_facts (hH i c hi hc).1
    have hcode : cCode c ≠ 0 := fun e => by have := t1.2 e; omega
    exact (hF i c hi hc hcode).1
  · intro i x hi hx hcode
    obtain ⟨t1, t2, t3, t4, t5⟩ := sound_facts (hH i x hi hx).1
    have hen : cEn x ≠ -1 := fun e => hcode (t1.1 e)
    have hen0 := t2 hen
    refine ⟨hL.2.2 i x hi hx (by omega), fun j y hy hlt p q hp hq => ?_⟩
    apply Classical.byContradiction
    intro hpq
    exact hL.2.1 q p (j : Int) (i : Int) y x (by omega) (List.getElem?_eq_some_iff.1 hp).1 hq hp (by rw [Int.toNat_natCast]; exact hy) (by rw [Int.toNat_natCast]; exact hx) ⟨by omega, hlt⟩

def OkL (cs : List Cl) (most : Int) (os : List Int) : Prop := ¬ 40 < cs.length ∧ (1 ≤ most ∧ most ≤ 4096) ∧ HistN cs cs.length ∧ LegalL cs most os

theorem rlegal_spec {calls order : Sl} {most : Int} {h : Heap} {cs : List Cl} {os : List Int} (ha : Arr h kapiCall calls cs) (ho : Arr h ki order os) (hn : calls.len ≤ 2097152) (hm : order.len ≤ 2097152)
    {c1 : Sl → Int → Heap → (Int → Heap → Prop) → Prop} {c2 : Sl → Int → Sl → Heap → ((Sl × (Bool × Unit)) → Heap → Prop) → Prop} {c4 : Sl → Heap → (Bool → Heap → Prop) → Prop}
    (i4 : ∀ {l : Sl} {h Q} {us : List Cl}, Arr h kapiCall l us → l.len ≤ 2097152 → (∀ b : Bool, (b = true ↔ HistN us us.length) → Q b h) → c4 l h Q)
    (i1 : ∀ {a b h Q}, ref4_Bad.M c4 a b h Q → c1 a b h Q)
    (i2 : ∀ {a b c h} {us : List Cl} {vs : List Int} {Q : (Sl × (Bool × Unit)) → Heap → Prop}, Arr h kapiCall a us → Arr h ki c vs → a.len ≤ 40 → c.len ≤ 2097152 → (∀ r (b' : Bool) h', (b' = true ↔ LegalL us b vs) → le h h' → Q (r, b', ()) h') → c2 a b c h Q)
    {Q : Bool → Heap → Prop} (hQ : ∀ (b : Bool) h', (b = true ↔ OkL cs most os) → le h h' → Q b h') : ref4_Legal.M c1 c2 calls most order h Q := by
  have hl : calls.len = cs.length := ha.1.symm
  have no : ¬ OkL cs most os → Q false h := fun hb => hQ false h ⟨fun q => (by cases q), fun q => absurd q hb⟩ (le.refl h)
  refine i1 ⟨fun e => ?_, fun e => ?_⟩
  · have e : (40 : Int) < (calls.len : Int) := of_decide_eq_true e
    exact ⟨fun _ => no fun q => q.1 (by omega), fun q => absurd (of_decide_eq_false q) (fun q => q (by decide))⟩
  have e : ¬ (40 : Int) < (calls.len : Int) := of_decide_eq_false e
  have j2 : ∀ b : Bool, (b = true ↔ ¬ (1 ≤ most ∧ most ≤ 4096)) → ref4_Bad.j2 c4 calls (fun r5 h6 => ((decide (r5 ≠ 0)) = true → Q false h6) ∧ ((decide (r5 ≠ 0)) = false → c2 calls most order h6 fun r7 h8 => Q r7.2.1 h8)) (b, ()) h := by
    intro b hb
    refine ⟨fun f => ⟨fun _ => no fun q => (hb.1 f) q.2.1, fun q => absurd (of_decide_eq_false q) (fun q => q (by decide))⟩, fun f => ?_⟩
    have g : 1 ≤ most ∧ most ≤ 4096 := Decidable.byContradiction fun q => by
      have := hb.2 q
      have f : b = false := f
      rw [f] at this; cases this
    refine i4 ha hn fun b' hb' => ⟨fun r => ⟨fun _ => no fun q => ?_, fun q => absurd (of_decide_eq_false q) (fun q => q (by decide))⟩, fun r => ⟨fun q => absurd rfl (of_decide_eq_true q), fun _ => ?_⟩⟩
    · have := hb'.2 q.2.2.1
      rw [this] at r; cases r
    · have hH : HistN cs cs.length := hb'.1 (by cases b' <;> first | rfl | cases r)
      exact i2 ha ho (by omega) hm fun _ b'' h' hb'' hle => hQ b'' h' (hb''.trans ⟨fun q => ⟨by omega, g, hH, q⟩, fun q => q.2.2.2⟩) hle
  refine ⟨fun f => ?_, fun f => ?_⟩
  · have f : most < 1 := of_decide_eq_true f
    exact j2 true ⟨fun _ q => by omega, fun _ => rfl⟩
  · have f : ¬ most < 1 := of_decide_eq_false f
    refine j2 _ ⟨fun q => ?_, fun q => ?_⟩
    · have q : (4096 : Int) < most := of_decide_eq_true q
      omega
    · exact decide_eq_true (by omega)

end Go.Mx
