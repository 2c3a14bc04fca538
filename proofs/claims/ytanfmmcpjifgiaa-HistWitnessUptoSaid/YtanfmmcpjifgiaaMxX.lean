/-
  The deque of hist and of plunderref4: what a call makes of a row.
-/
import Derived.Test.YtanfmmcpjifgiaaMxU
set_option linter.unusedVariables false
set_option linter.unusedSimpArgs false
namespace Go.Mx

def doesL (xs : List Int) (c : Cl) (most : Int) : List Int × Bool :=
  if c.2.1 = 0 ∧ c.2.2.2.2.2.1 = 3 then (xs, decide ((xs.length : Int) = most))
  else if c.2.1 = 0 then (xs ++ [c.2.2.1], decide ((xs.length : Int) < most))
  else if c.2.2.2.2.2.1 = 6 then (xs, true)
  else if c.2.2.2.2.2.1 = 5 then (xs, decide (xs.length = 0))
  else if xs.length = 0 then (xs, false)
  else if c.2.1 = 1 then (xs.take (xs.length - 1), decide (c.2.2.2.2.2.1 ≠ 4 ∨ xs[xs.length - 1]? = some c.2.2.2.2.2.2.1))
  else (xs.drop 1, decide (c.2.2.2.2.2.1 ≠ 4 ∨ xs[0]? = some c.2.2.2.2.2.2.1))

theorem does_spec {r : Sl} {c : Cl} {most : Int} {h : Heap} {xs : List Int} (ha : Arr h ki r xs) (hn : r.len ≤ 2097152) {Q : (Sl × (Bool × Unit)) → Heap → Prop}
    (hQ : ∀ l b s h', doesL xs c most = (l, b) → Arr h' ki s l → le h h' → (∀ b, blkOf s b → h b = none) → Q (s, b, ()) h') : hist_row_does.M r c most h Q := by
  have hl : r.len = xs.length := ha.1.symm
  have hw : w64 ((r.len : Int) + 1) = ((r.len + 1 : Nat) : Int) := by rw [w64_of] <;> omega
  unfold hist_row_does.M
  rw [hw]
  refine make_new (by omega) (by omega) (by omega) (by omega) fun s h1 hN e1 e2 e3 => ?_
  have hsl : s.len = r.len := by omega
  have hsc : s.cap = r.len + 1 := by omega
  refine hN.own.copy hN.len (ha.le hN.le) (by omega) rfl rfl fun _ h2 hO hE => ?_
  have hle : le h h2 := le_ext hN.le hE hN.new
  have hN2 : New h h2 ki s xs := ⟨hO, by omega, hle, hN.new⟩
  have hs := hN2.arr
  have ha2 := ha.le hle
  have j2 : ∀ b : Bool, b = decide (c.2.1 = 0 ∧ c.2.2.2.2.2.1 = 3) → hist_row_does.j2 r c most Q s (b, ()) h2 := by
    rintro b rfl
    refine ⟨fun d => ?_, fun d => ?_⟩
    · have d := of_decide_eq_true d
      exact hQ _ _ _ _ (by simp [doesL, d, hl]) hs hle hN.new
    have d : ¬ (c.2.1 = 0 ∧ c.2.2.2.2.2.1 = 3) := of_decide_eq_false d
    refine ⟨fun d1 => ?_, fun d1 => ?_⟩
    · have d1 := of_decide_eq_true d1
      refine hN2.app rfl rfl (by omega) fun t h3 hN3 => ?_
      exact hQ _ _ _ _ (by rw [doesL, if_neg d, if_pos d1, hl]) hN3.arr hN3.le hN3.new
    have d1 := of_decide_eq_false d1
    refine ⟨fun d2 => ?_, fun d2 => ?_⟩
    · have d2 := of_decide_eq_true d2
      exact hQ _ _ _ _ (by rw [doesL, if_neg d, if_neg d1, if_pos d2]) hs hle hN.new
    have d2 := of_decide_eq_false d2
    refine ⟨fun d3 => ?_, fun d3 => ?_⟩
    · have d3 := of_decide_eq_true d3
      exact hQ _ _ _ _ (by rw [doesL, if_neg d, if_neg d1, if_neg d2, if_pos d3, hl]; simp) hs hle hN.new
    have d3 := of_decide_eq_false d3
    refine ⟨fun d4 => ?_, fun d4 => ?_⟩
    · have d4 := of_decide_eq_true d4
      exact hQ _ _ _ _ (by rw [doesL, if_neg d, if_neg d1, if_neg d2, if_neg d3, if_pos (by omega)]) hs hle hN.new
    have d4 := of_decide_eq_false d4
    have hne : ¬ xs.length = 0 := by omega
    have hpos : 0 < xs.length := by omega
    have hw1 : w64 ((s.len : Int) - 1) = ((xs.length - 1 : Nat) : Int) := by rw [w64_of] <;> omega
    have hw2 : w64 ((r.len : Int) - 1) = ((xs.length - 1 : Nat) : Int) := by rw [w64_of] <;> omega
    refine ⟨fun d5 => ?_, fun d5 => ?_⟩
    · have d5 := of_decide_eq_true d5
      rw [hw1, hw2]
      refine ⟨by omega, fun d6 => ?_, fun d6 => ?_⟩
      · have d6 := of_decide_eq_true d6
        exact hQ _ _ _ _ (by rw [doesL, if_neg d, if_neg d1, if_neg d2, if_neg d3, if_neg hne, if_pos d5, decide_eq_true (Or.inl d6)]; rfl) (hs.pre (by omega)) hle (fun b q => hN.new b (blk_cut q))
      · have d6 := of_decide_eq_false d6
        refine ⟨by omega, ha2.at (i := ((xs.length - 1 : Nat) : Int)) (by omega) (by omega) rfl fun x hx => ?_⟩
        rw [Int.toNat_natCast] at hx
        exact hQ _ _ _ _ (by rw [doesL, if_neg d, if_neg d1, if_neg d2, if_neg d3, if_neg hne, if_pos d5, hx]; simp [d6]) (hs.pre (by omega)) hle (fun b q => hN.new b (blk_cut q))
    · have d5 := of_decide_eq_false d5
      refine ⟨by omega, fun d6 => ?_, fun d6 => ?_⟩
      · have d6 := of_decide_eq_true d6
        exact hQ _ _ _ _ (by rw [doesL, if_neg d, if_neg d1, if_neg d2, if_neg d3, if_neg hne, if_neg d5, decide_eq_true (Or.inl d6)]) (hs.suf (n := 1) (by omega) rfl) hle (fun b q => hN.new b (blk_cut q))
      · have d6 := of_decide_eq_false d6
        refine ⟨by omega, ha2.at (i := 0) (by omega) (by omega) rfl fun x hx => ?_⟩
        exact hQ _ _ _ _ (by rw [doesL, if_neg d, if_neg d1, if_neg d2, if_neg d3, if_neg hne, if_neg d5, show xs[0]? = some x from hx]; simp [d6]) (hs.suf (n := 1) (by omega) rfl) hle (fun b q => hN.new b (blk_cut q))
  refine ⟨fun d => j2 _ ?_, fun d => j2 _ ?_⟩
  · have d := of_decide_eq_true d
    simp [d]
  · have d := of_decide_eq_false d
    simp [d]

def doL (xs : List Int) (c : Cl) (most : Int) : List Int × Bool :=
  if c.2.2.2.2.2.1 = 3 then (xs, decide ((xs.length : Int) = most))
  else if c.2.2.2.2.2.1 = 5 then (xs, decide (xs.length = 0))
  else if c.2.2.2.2.2.1 = 6 then (xs, true)
  else if c.2.1 = 0 then (if most ≤ (xs.length : Int) then (xs, false) else (xs ++ [c.2.2.1], true))
  else if xs.length = 0 then (xs, false)
  else if c.2.1 = 1 then (xs.take (xs.length - 1), decide (c.2.2.2.2.2.1 = 0 ∨ xs[xs.length - 1]? = some c.2.2.2.2.2.2.1))
  else (xs.drop 1, decide (c.2.2.2.2.2.1 = 0 ∨ xs[0]? = some c.2.2.2.2.2.2.1))

theorem do_spec {r : Sl} {c : Cl} {most : Int} {h : Heap} {xs : List Int} (ha : Arr h ki r xs) (hn : r.len ≤ 2097152) {Q : (Sl × (Bool × Unit)) → Heap → Prop}
    (hQ : ∀ l b s h', doL xs c most = (l, b) → Arr h' ki s l → le h h' → (∀ b, l ≠ [] → blkOf s b → (xs ≠ [] ∧ blkOf r b) ∨ h b = none) → Q (s, b, ()) h') : ref4_Do.M r c most h Q := by
  have hl : r.len = xs.length := ha.1.symm
  refine ⟨fun d => ?_, fun d => ?_⟩
  · have d := of_decide_eq_true d
    exact hQ _ _ _ _ (by rw [doL, if_pos d, hl]) ha (le.refl h) (fun b n q => .inl ⟨n, q⟩)
  have d := of_decide_eq_false d
  refine ⟨fun d1 => ?_, fun d1 => ?_⟩
  · have d1 := of_decide_eq_true d1
    exact hQ _ _ _ _ (by rw [doL, if_neg d, if_pos d1, hl]; simp) ha (le.refl h) (fun b n q => .inl ⟨n, q⟩)
  have d1 := of_decide_eq_false d1
  refine ⟨fun d2 => ?_, fun d2 => ?_⟩
  · have d2 := of_decide_eq_true d2
    exact hQ _ _ _ _ (by rw [doL, if_neg d, if_neg d1, if_pos d2]) ha (le.refl h) (fun b n q => .inl ⟨n, q⟩)
  have d2 := of_decide_eq_false d2
  refine ⟨fun d3 => ?_, fun d3 => ?_⟩
  · have d3 := of_decide_eq_true d3
    refine ⟨fun d4 => ?_, fun d4 => ?_⟩
    · have d4 := of_decide_eq_true d4
      exact hQ _ _ _ _ (by rw [doL, if_neg d, if_neg d1, if_neg d2, if_pos d3, if_pos (by omega)]) ha (le.refl h) (fun b n q => .inl ⟨n, q⟩)
    · have d4 := of_decide_eq_false d4
      refine New.mk0 (k := ki) fun p h1 hN => ?_
      refine hN.apps (ha.le hN.le) rfl rfl (by dsimp only; omega) fun t h2 hN2 => ?_
      refine hN2.app rfl rfl ?_ fun t2 h3 hN3 => ?_
      · have := hN2.len; simp at this; omega
      · exact hQ _ _ _ _ (by rw [doL, if_neg d, if_neg d1, if_neg d2, if_pos d3, if_neg (by omega), List.nil_append]) hN3.arr hN3.le (fun b _ q => .inr (hN3.new b q))
  have d3 := of_decide_eq_false d3
  refine ⟨fun d4 => ?_, fun d4 => ?_⟩
  · have d4 := of_decide_eq_true d4
    exact hQ _ _ _ _ (by rw [doL, if_neg d, if_neg d1, if_neg d2, if_neg d3, if_pos (by omega)]) ha (le.refl h) (fun b n q => .inl ⟨n, q⟩)
  have d4 := of_decide_eq_false d4
  have hne : ¬ xs.length = 0 := by omega
  have hpos : 0 < xs.length := by omega
  have hcap := ha.2.1
  have hw2 : w64 ((r.len : Int) - 1) = ((xs.length - 1 : Nat) : Int) := by rw [w64_of] <;> omega
  refine ⟨fun d5 => ?_, fun d5 => ?_⟩
  · have d5 := of_decide_eq_true d5
    rw [hw2]
    refine ⟨by omega, fun d6 => ?_, fun d6 => ?_⟩
    · have d6 := of_decide_eq_true d6
      exact hQ _ _ _ _ (by rw [doL, if_neg d, if_neg d1, if_neg d2, if_neg d3, if_neg hne, if_pos d5, decide_eq_true (Or.inl d6)]; rfl) (ha.pre (by omega)) (le.refl h) (fun b n q => .inl ⟨fun e => n (by rw [e]; simp), blk_cut q⟩)
    · have d6 := of_decide_eq_false d6
      refine ⟨by omega, ha.at (i := ((xs.length - 1 : Nat) : Int)) (by omega) (by omega) rfl fun x hx => ?_⟩
      rw [Int.toNat_natCast] at hx
      exact hQ _ _ _ _ (by rw [doL, if_neg d, if_neg d1, if_neg d2, if_neg d3, if_neg hne, if_pos d5, hx]; simp [d6]) (ha.pre (by omega)) (le.refl h) (fun b n q => .inl ⟨fun e => n (by rw [e]; simp), blk_cut q⟩)
  · have d5 := of_decide_eq_false d5
    refine ⟨by omega, fun d6 => ?_, fun d6 => ?_⟩
    · have d6 := of_decide_eq_true d6
      exact hQ _ _ _ _ (by rw [doL, if_neg d, if_neg d1, if_neg d2, if_neg d3, if_neg hne, if_neg d5, decide_eq_true (Or.inl d6)]) (ha.suf (n := 1) (by omega) rfl) (le.refl h) (fun b n q => .inl ⟨fun e => n (by rw [e]; simp), blk_cut q⟩)
    · have d6 := of_decide_eq_false d6
      refine ⟨by omega, ha.at (i := 0) (by omega) (by omega) rfl fun x hx => ?_⟩
      exact hQ _ _ _ _ (by rw [doL, if_neg d, if_neg d1, if_neg d2, if_neg d3, if_neg hne, if_neg d5, show xs[0]? = some x from hx]; simp [d6]) (ha.suf (n := 1) (by omega) rfl) (le.refl h) (fun b n q => .inl ⟨fun e => n (by rw [e]; simp), blk_cut q⟩)

theorem clone_spec {s : Sl} {h : Heap} {xs : List Int} (ha : Arr h ki s xs) (hn : s.len ≤ 2097152) {Q : Sl → Heap → Prop} (hQ : ∀ r h', New h h' ki r xs → Q r h') : slices_Clone_int64_int64.M s h Q := by
  refine ⟨fun d => ?_, fun d => ?_⟩
  · have hx : xs = [] := by
      have := ha.2.2
      revert this
      cases e : s.a with
      | none => intro q; exact List.eq_nil_of_length_eq_zero (by rw [ha.1]; exact q)
      | some a => rw [e] at d; cases d
    subst hx
    exact hQ _ _ (New.nil h ki)
  · refine New.mk0 (k := ki) fun p h1 hN => ?_
    exact hN.apps (ha.le hN.le) rfl rfl (by dsimp only; omega) fun t h2 hN2 => hQ _ _ hN2

abbrev Td := Den kapiTodo
/-- The call that the deque answers to a todo. -/
def askL (xs : List Int) (t : Td) (most i : Int) : Cl :=
  (if t.1 = 2 then 1 else 0, (t.1, (if t.1 = 0 then t.2.1 else 0, (i, (i,
    (if t.1 = 0 then (if (xs.length : Int) < most then 2 else 3) else if xs.length = 0 then 5 else 4,
    (if t.1 = 0 then 0 else if xs.length = 0 then 0 else if t.1 = 1 then xs[xs.length - 1]?.getD 0 else xs[0]?.getD 0, ())))))))

theorem asked_spec {r : Sl} {t : Td} {most : Int} {h : Heap} {xs : List Int} (ha : Arr h ki r xs) (hn : r.len ≤ 2097152) {Q : Cl → Heap → Prop} (hQ : Q (askL xs t most 0) h) : ref4_asked.M r t most h Q := by
  have hl : r.len = xs.length := ha.1.symm
  have j3 : ∀ code v : Int, code = (if t.1 = 0 then (if (xs.length : Int) < most then 2 else 3) else if xs.length = 0 then 5 else 4) →
      v = (if t.1 = 0 then 0 else if xs.length = 0 then 0 else if t.1 = 1 then xs[xs.length - 1]?.getD 0 else xs[0]?.getD 0) →
      ref4_asked.j3 t Q ((0, (t.1, (0, (0, (0, (code, (v, ()))))))), ()) h := by
    intro code v e1 e2
    unfold askL at hQ
    rw [← e1, ← e2] at hQ
    refine ⟨fun d => ?_, fun d => ?_⟩
    · have d := of_decide_eq_true d
      refine ⟨fun g => ?_, fun g => ?_⟩
      · have g := of_decide_eq_true g; exact absurd (d.symm.trans g) (by decide)
      · have g := of_decide_eq_false g
        rw [if_neg g, if_pos d] at hQ
        exact hQ
    · have d := of_decide_eq_false d
      refine ⟨fun g => ?_, fun g => ?_⟩
      · have g := of_decide_eq_true g
        rw [if_pos g, if_neg d] at hQ
        exact hQ
      · have g := of_decide_eq_false g
        rw [if_neg g, if_neg d] at hQ
        exact hQ
  have j4 : ∀ b : Bool, b = decide (t.1 = 0 ∧ (xs.length : Int) < most) → ref4_asked.j4 r t Q (b, ()) h := by
    rintro b rfl
    refine ⟨fun d => ?_, fun d => ?_⟩
    · have d : t.1 = 0 ∧ (xs.length : Int) < most := of_decide_eq_true d
      exact j3 _ _ (by rw [if_pos d.1, if_pos d.2]) (by rw [if_pos d.1])
    have d : ¬ (t.1 = 0 ∧ (xs.length : Int) < most) := of_decide_eq_false d
    refine ⟨fun g => ?_, fun g => ?_⟩
    · have g := of_decide_eq_true g
      exact j3 _ _ (by rw [if_pos g, if_neg (fun q => d ⟨g, q⟩)]) (by rw [if_pos g])
    have g := of_decide_eq_false g
    refine ⟨fun f => ?_, fun f => ?_⟩
    · have f := of_decide_eq_true f
      have f' : xs.length = 0 := by omega
      exact j3 _ _ (by rw [if_neg g, if_pos f']) (by rw [if_neg g, if_pos f'])
    have f := of_decide_eq_false f
    have f' : ¬ xs.length = 0 := by omega
    have hw2 : w64 ((r.len : Int) - 1) = ((xs.length - 1 : Nat) : Int) := by rw [w64_of] <;> omega
    refine ⟨fun k => ?_, fun k => ?_⟩
    · have k := of_decide_eq_true k
      rw [hw2]
      refine ⟨by omega, ha.at (i := ((xs.length - 1 : Nat) : Int)) (by omega) (by omega) rfl fun x hx => ?_⟩
      rw [Int.toNat_natCast] at hx
      exact j3 _ _ (by rw [if_neg g, if_neg f']) (by rw [if_neg g, if_neg f', if_pos k, hx]; rfl)
    · have k := of_decide_eq_false k
      refine ⟨by omega, ha.at (i := 0) (by omega) (by omega) rfl fun x hx => ?_⟩
      exact j3 _ _ (by rw [if_neg g, if_neg f']) (by rw [if_neg g, if_neg f', if_neg k, show xs[0]? = some x from hx]; rfl)
  refine ⟨fun d => j4 _ ?_, fun d => j4 _ ?_⟩
  · have d := of_decide_eq_true d
    simp [d, hl]
  · have d := of_decide_eq_false d
    simp [d]

/-- A step of the plain deque. -/
def stepL (most : Int) (st : List Cl × List Int) (t : Td) : List Cl × List Int :=
  (st.1 ++ [askL st.2 t most (st.1.length : Int)], (doL st.2 (askL st.2 t most (st.1.length : Int)) most).1)
def runL (most : Int) (ts : List Td) : List Cl × List Int := ts.foldl (stepL most) ([], [])
theorem runL_succ (most : Int) (ts : List Td) {i : Nat} (h : i < ts.length) : runL most (ts.take (i + 1)) = stepL most (runL most (ts.take i)) ts[i] := by
  unfold runL
  rw [take_succ' ts h, List.foldl_append]
  rfl

theorem doL_len (xs : List Int) (t : Td) (most i : Int) (hm : (xs.length : Int) ≤ most) : ((doL xs (askL xs t most i) most).1.length : Int) ≤ most ∧ (doL xs (askL xs t most i) most).1.length ≤ xs.length + 1 := by
  unfold doL askL
  dsimp only
  by_cases h0 : t.1 = 0
  · simp only [h0, if_true]
    by_cases h1 : (xs.length : Int) < most
    · simp only [h1, if_true]
      have : ¬ most ≤ (xs.length : Int) := by omega
      simp [this]; omega
    · simp [h1]; omega
  · simp only [h0, if_false]
    by_cases h1 : xs.length = 0
    · simp [h1]; omega
    · simp only [h1, if_false]
      by_cases h2 : t.1 = 1
      · simp [h2]; omega
      · simp [h2]; omega

theorem does_do (xs : List Int) (t : Td) (most i : Int) (hk : t.1 = 0 ∨ t.1 = 1 ∨ t.1 = 2) : (doesL xs (askL xs t most i) most).1 = (doL xs (askL xs t most i) most).1 := by
  unfold doL doesL askL
  dsimp only
  by_cases h0 : t.1 = 0
  · simp only [h0, if_true]
    by_cases h1 : (xs.length : Int) < most
    · have : ¬ most ≤ (xs.length : Int) := by omega
      simp [h1, this]
    · simp [h1]
  · simp only [h0, if_false]
    by_cases h1 : xs.length = 0
    · simp [h1]
    · simp [h1]

theorem runL_len (most : Int) (hm : 1 ≤ most) (ts : List Td) : ∀ i, i ≤ ts.length → (runL most (ts.take i)).1.length = i ∧ (runL most (ts.take i)).2.length ≤ i ∧ ((runL most (ts.take i)).2.length : Int) ≤ most
  | 0, _ => by simp [runL]; omega
  | i + 1, h => by
    obtain ⟨a, b, c⟩ := runL_len most hm ts i (by omega)
    rw [runL_succ most ts h]
    have := doL_len (runL most (ts.take i)).2 ts[i] most ((runL most (ts.take i)).1.length : Int) c
    refine ⟨by simp [stepL, a], ?_, this.1⟩
    show (doL _ _ _).1.length ≤ i + 1
    omega

/-- 4.4: the error. -/
def serE (ts : List Td) (most : Int) : Int :=
  if 40 < ts.length then 2 else if ¬ (1 ≤ most ∧ most ≤ 4096) then 3 else if ∃ t ∈ ts, ¬ (t.1 = 0 ∨ t.1 = 1 ∨ t.1 = 2) then 31 else 0

theorem serE_ok {ts : List Td} {most : Int} (h1 : ¬ 40 < ts.length) (h2 : 1 ≤ most ∧ most ≤ 4096) (h3 : ∀ t ∈ ts, t.1 = 0 ∨ t.1 = 1 ∨ t.1 = 2) : serE ts most = 0 := by
  unfold serE
  rw [if_neg h1, if_neg (fun q => q h2), if_neg]
  rintro ⟨t, ht, hb⟩
  exact hb (h3 t ht)

theorem kind_cases (k : Int) : (k = 0 ∨ k = 1 ∨ k = 2) ↔ (0 ≤ k ∧ k ≤ 2) := by omega
theorem kind_low {k : Int} (h : k < 0) : ¬ (k = 0 ∨ k = 1 ∨ k = 2) := by omega
theorem kind_high {k : Int} (h : 2 < k) : ¬ (k = 0 ∨ k = 1 ∨ k = 2) := by omega
theorem kind_in {k : Int} (h0 : ¬ k < 0) (h : ¬ 2 < k) : k = 0 ∨ k = 1 ∨ k = 2 := by omega

theorem rserial_spec {todos : Sl} {most : Int} {h : Heap} {ts : List Td} (ha : Arr h kapiTodo todos ts) {c1 : Sl → Td → Int → Heap → (Cl → Heap → Prop) → Prop} {c2 : Sl → Cl → Int → Heap → ((Sl × (Bool × Unit)) → Heap → Prop) → Prop}
    (i1 : ∀ {a b c h Q}, ref4_asked.M a b c h Q → c1 a b c h Q) (i2 : ∀ {a b c h Q}, ref4_Do.M a b c h Q → c2 a b c h Q) {Q : (Sl × (Sl × (Int × Unit))) → Heap → Prop}
    (hE : ∀ e, e = serE ts most → e ≠ 0 → Q (⟨none, 0, 0⟩, ⟨none, 0, 0⟩, e, ()) h)
    (hQ : serE ts most = 0 → ∀ s r h', Arr h' kapiCall s (runL most ts).1 → Arr h' ki r (runL most ts).2 → le h h' → Q (s, r, 0, ()) h') : ref4_Serial.M c1 c2 todos most h Q := by
  have hl : todos.len = ts.length := ha.1.symm
  refine ⟨fun d => ?_, fun d => ?_⟩
  · have d := of_decide_eq_true d
    exact hE 2 (by unfold serE; rw [if_pos (by omega)]) (by decide)
  have d := of_decide_eq_false d
  have d' : ¬ 40 < ts.length := by omega
  have hw : ∀ i : Nat, i < todos.len → w64 ((i : Int) + 1) = ((i + 1 : Nat) : Int) := fun i hi => by rw [w64_of] <;> omega
  have j6 : ∀ b : Bool, b = decide (¬ (1 ≤ most ∧ most ≤ 4096)) → ref4_Serial.j6 c1 c2 todos most Q (b, ()) h := by
    rintro b rfl
    refine ⟨fun g => ?_, fun g => ?_⟩
    · have g : ¬ (1 ≤ most ∧ most ≤ 4096) := of_decide_eq_true g
      exact hE 3 (by unfold serE; rw [if_neg d', if_pos g]) (by decide)
    have g : ¬ ¬ (1 ≤ most ∧ most ≤ 4096) := of_decide_eq_false g
    have g : 1 ≤ most ∧ most ≤ 4096 := by omega
    refine Loop.up todos.len (fun s => s.1) (fun i s h' => h' = h ∧ ∀ t ∈ ts.take i, t.1 = 0 ∨ t.1 = 1 ∨ t.1 = 2) rfl ⟨rfl, fun t ht => by simp at ht⟩ ?_
    rintro i ⟨j, u⟩ h' go hi hc ⟨rfl, hI⟩ hgo
    dsimp only at hc; subst hc
    refine ⟨fun c => ?_, fun c => ?_⟩
    · have c : (i : Int) < (todos.len : Int) := of_decide_eq_true c
      have c' : i < todos.len := by omega
      have hlt : i < ts.length := by omega
      have field : ∀ {K : Int → Prop}, K ts[i].1 → deref todos.a fun a => ld ki h' ((a.add ((i : Int).toNat * 2)).add 0) K := by
        intro K hK
        obtain ⟨a, n, m⟩ := todos
        cases a with
        | none => have := ha.2.2; dsimp only at this c'; omega
        | some a =>
          refine ⟨ts[i].1, ?_, hK⟩
          rw [add_add']
          have := cellsAt_el ha.2.2 (i := i) (x := ts[i]) (by simp [hlt])
          intro q v hq
          have hq0 : q = 0 := by
            have := (List.getElem?_eq_some_iff.1 hq).1
            have e : (Kd.cells ki ts[i].1).length = 1 := rfl
            omega
          subst hq0
          have := this 0 v (by cases hq; rfl)
          rw [add_add'] at this ⊢
          exact this
      have done : (ts[i].1 = 0 ∨ ts[i].1 = 1 ∨ ts[i].1 = 2) → go (w64 ((i : Int) + 1), ()) h' := fun ok => hgo c' _ _ (hw i c') ⟨rfl, fun t ht => by
        rw [take_succ' ts hlt] at ht
        rcases List.mem_append.1 ht with q | q
        · exact hI t q
        · obtain rfl : t = ts[i] := by simpa using q
          exact ok⟩
      have bad : ¬ (ts[i].1 = 0 ∨ ts[i].1 = 1 ∨ ts[i].1 = 2) → Q (⟨none, 0, 0⟩, ⟨none, 0, 0⟩, 31, ()) h' := fun nb =>
        hE 31 (by unfold serE; rw [if_neg d', if_neg (fun q => q g), if_pos ⟨ts[i], by simp, nb⟩]) (by decide)
      refine ⟨⟨Int.natCast_nonneg i, c⟩, field ⟨fun f => ?_, fun f => ?_⟩⟩
      · have f : (ts[i].1 : Int) < 0 := of_decide_eq_true f
        exact ⟨fun _ => bad (kind_low f), fun e => by cases e⟩
      · have f : ¬ (ts[i].1 : Int) < 0 := of_decide_eq_false f
        refine ⟨⟨Int.natCast_nonneg i, c⟩, field ⟨fun e => ?_, fun e => ?_⟩⟩
        · have e : (2 : Int) < (ts[i].1 : Int) := of_decide_eq_true e
          exact bad (kind_high e)
        · have e : ¬ (2 : Int) < (ts[i].1 : Int) := of_decide_eq_false e
          exact done (kind_in f e)
    have c : ¬ (i : Int) < (todos.len : Int) := of_decide_eq_false c
    rw [List.take_of_length_le (by omega)] at hI
    have hok := serE_ok d' g hI
    clear hgo c hi
    refine Loop.up todos.len (fun s => s.2.2.1) (fun i s k => le h' k ∧ Arr k ki s.1 (runL most (ts.take i)).2 ∧ New h' k kapiCall s.2.1 (runL most (ts.take i)).1 ∧ ((runL most (ts.take i)).2 ≠ [] → ∀ b, blkOf s.1 b → ¬ blkOf s.2.1 b)) rfl ⟨le.refl h', (New.nil h' ki).arr, New.nil h' _, fun _ b q => by obtain ⟨a, e, _⟩ := q; cases e⟩ ?_
    rintro i ⟨row, cs, j, u⟩ k go hi hc ⟨hle, hA, hN, hap⟩ hgo
    dsimp only at hc hA hN hap; subst hc
    obtain ⟨n1, n2, n3⟩ := runL_len most g.1 ts i (by omega)
    refine ⟨fun c => ?_, fun c => ?_⟩
    · have c : (i : Int) < (todos.len : Int) := of_decide_eq_true c
      have c' : i < todos.len := by omega
      have hlt : i < ts.length := by omega
      refine ⟨⟨Int.natCast_nonneg i, c⟩, (ha.le hle).at (Int.natCast_nonneg i) c rfl ?_⟩
      intro t ht
      obtain rfl : ts[i] = t := by simpa [hlt] using ht
      have hrl : row.len ≤ 2097152 := by rw [← hA.1]; omega
      refine i1 (asked_spec hA hrl ?_)
      refine i2 (do_spec hA hrl fun l b s k1 e1 hA1 hle1 hb1 => ?_)
      have hcl : cs.len = i := by rw [← hN.len, n1]
      have hap1 : l ≠ [] → ∀ b, blkOf s b → ¬ blkOf cs b := fun n b q r => by
        rcases hb1 b n q with x | x
        · exact hap x.1 b x.2 r
        · exact hN.own.blk r x
      refine (hN.more hle1).app3 rfl rfl (by omega) fun t2 k2 hN2 hx hb2 => ?_
      refine hgo c' _ _ (hw i c') ⟨hN2.le, ?_, ?_, ?_⟩
      · rw [runL_succ most ts hlt]
        unfold stepL
        dsimp only
        rw [n1]
        have : doL (runL most (ts.take i)).2 (askL (runL most (ts.take i)).2 ts[i] most (i : Int)) most = (l, b) := e1
        rw [this]
        by_cases hn : l = []
        · subst hn
          refine ⟨hA1.1, hA1.2.1, ?_⟩
          have q := hA1.2.2
          cases e : s.a with
          | none => rw [e] at q; exact q
          | some a => intro j v hj; cases hj
        · exact hA1.ext hx (hap1 hn)
      · rw [runL_succ most ts hlt]
        unfold stepL
        dsimp only
        rw [n1]
        exact hN2
      · rw [runL_succ most ts hlt]
        unfold stepL
        dsimp only
        rw [n1]
        have : doL (runL most (ts.take i)).2 (askL (runL most (ts.take i)).2 ts[i] most (i : Int)) most = (l, b) := e1
        rw [this]
        intro hn b q r
        rcases hb2 b r with x | x
        · exact hap1 hn b q x
        · exact hA1.live hn (by decide) q x
    · have c : ¬ (i : Int) < (todos.len : Int) := of_decide_eq_false c
      rw [List.take_of_length_le (by omega)] at hA hN
      exact hQ hok _ _ _ hN.arr hA hle
  refine ⟨fun g => j6 _ ?_, fun g => j6 _ ?_⟩
  · have g := of_decide_eq_true g
    rw [decide_eq_true]; omega
  · have g := of_decide_eq_false g
    by_cases f : (4096 : Int) < most
    · rw [decide_eq_true f, decide_eq_true]; omega
    · rw [decide_eq_false f, decide_eq_false]; omega

end Go.Mx
