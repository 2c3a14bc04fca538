/-
  The deque of hist and of plunderref4: what a call makes of a row.
-/
import Derived.Test.YtjkecefbbijajabMxU
set_option linter.unusedVariables false
set_option linter.unusedSimpArgs false
namespace Go.Mx

def doesL (xs : List Int) (c : Cl) (most : Int) : List Int × Bool :=
  if c.2.1 = 0 ∧ c.2.2.2.2.2.1 = 3 then (xs, decide ((xs.length : Int) = most))
  else if c.2.1 = 0 then (xs ++ [c.2.2.1], decide ((xs.length : Int) < most))
  else if c.2.2.2.2.2.1 = 6 then (xs, true)
  else if c.2.2.2.2.2.1 = 5 then (xs, decide (xs.length = 0))
  else if xs.length = 0 then (xs, false)
  else if c.2.1 = 1 then (xs.take (xs.length - 1), decide (c.2.2.2.2.2.1 ≠ 4 ∨ xs[xs.length - 1]? = some c.2.2.2.2.2.2.1))
  else (xs.drop 1, decide (c.2.2.2.2.2.1 ≠ 4 ∨ xs[0]? = some c.2.2.2.2.2.2.1))

theorem does_spec {r : Sl} {c : Cl} {most : Int} {h : Heap} {xs : List Int} (ha : Arr h ki r xs) (hn : r.len ≤ 2097152) {Q : (Sl × (Bool × Unit)) → Heap → Prop}
    (hQ : ∀ l b s h', doesL xs c most = (l, b) → Arr h' ki s l → le h h' → (∀ b, blkOf s b → h b = none) → Q (s, b, ()) h') : hist_row_does.M r c most h Q := by
  have hl : r.len = xs.length := ha.1.symm
  have hw : w64 ((r.len : Int) + 1) = ((r.len + 1 : Nat) : Int) := by rw [w64_of] <;> omega
  unfold hist_row_does.M
  rw [hw]
  refine make_new (by omega) (by omega) (by omega) (by omega) fun s h1 hN e1 e2 e3 => ?_
  have hsl : s.len = r.len := by omega
  have hsc : s.cap = r.len + 1 := by omega
  refine hN.own.copy hN.len (ha.le hN.le) (by omega) rfl rfl fun _ h2 hO hE => ?_
  have hle : le h h2 := le_ext hN.le hE hN.new
  have hN2 : New h h2 ki s xs := ⟨hO, by omega, hle, hN.new⟩
  have hs := hN2.arr
  have ha2 := ha.le hle
  have j2 : ∀ b : Bool, b = decide (c.2.1 = 0 ∧ c.2.2.2.2.2.1 = 3) → hist_row_does.j2 r c most Q s (b, ()) h2 := by
    rintro b rfl
    refine ⟨fun d => ?_, fun d => ?_⟩
    · have d := of_decide_eq_true d
      exact hQ _ _ _ _ (by simp [doesL, d, hl]) hs hle hN.new
    have d : ¬ (c.2.1 = 0 ∧ c.2.2.2.2.2.1 = 3) := of_decide_eq_false d
    refine ⟨fun d1 => ?_, fun d1 => ?_⟩
    · have d1 := of_decide_eq_true d1
      refine hN2.app rfl rfl (by omega) fun t h3 hN3 => ?_
      exact hQ _ _ _ _ (by rw [doesL, if_neg d, if_pos d1, hl]) hN3.arr hN3.le hN3.new
    have d1 := of_decide_eq_false d1
    refine ⟨fun d2 => ?_, fun d2 => ?_⟩
    · have d2 := of_decide_eq_true d2
      exact hQ _ _ _ _ (by rw [doesL, if_neg d, if_neg d1, if_pos d2]) hs hle hN.new
    have d2 := of_decide_eq_false d2
    refine ⟨fun d3 => ?_, fun d3 => ?_⟩
    · have d3 := of_decide_eq_true d3
      exact hQ _ _ _ _ (by rw [doesL, if_neg d, if_neg d1, if_neg d2, if_pos d3, hl]; simp) hs hle hN.new
    have d3 := of_decide_eq_false d3
    refine ⟨fun d4 => ?_, fun d4 => ?_⟩
    · have d4 := of_decide_eq_true d4
      exact hQ _ _ _ _ (by rw [doesL, if_neg d, if_neg d1, if_neg d2, if_neg d3, if_pos (by omega)]) hs hle hN.new
    have d4 := of_decide_eq_false d4
    have hne : ¬ xs.length = 0 := by omega
    have hpos : 0 < xs.length := by omega
    have hw1 : w64 ((s.len : Int) - 1) = ((xs.length - 1 : Nat) : Int) := by rw [w64_of] <;> omega
    have hw2 : w64 ((r.len : Int) - 1) = ((xs.length - 1 : Nat) : Int) := by rw [w64_of] <;> omega
    refine ⟨fun d5 => ?_, fun d5 => ?_⟩
    · have d5 := of_decide_eq_true d5
      rw [hw1, hw2]
      refine ⟨by omega, fun d6 => ?_, fun d6 => ?_⟩
      · have d6 := of_decide_eq_true d6
        exact hQ _ _ _ _ (by rw [doesL, if_neg d, if_neg d1, if_neg d2, if_neg d3, if_neg hne, if_pos d5, decide_eq_true (Or.inl d6)]; rfl) (hs.pre (by omega)) hle (fun b q => hN.new b (blk_cut q))
      · have d6 := of_decide_eq_false d6
        refine ⟨by omega, ha2.at (i := ((xs.length - 1 : Nat) : Int)) (by omega) (by omega) rfl fun x hx => ?_⟩
        rw [Int.toNat_natCast] at hx
        exact hQ _ _ _ _ (by rw [doesL, if_neg d, if_neg d1, if_neg d2, if_neg d3, if_neg hne, if_pos d5, hx]; simp [d6]) (hs.pre (by omega)) hle (fun b q => hN.new b (blk_cut q))
    · have d5 := of_decide_eq_false d5
      refine ⟨by omega, fun d6 => ?_, fun d6 => ?_⟩
      · have d6 := of_decide_eq_true d6
        exact hQ _ _ _ _ (by rw [doesL, if_neg d, if_neg d1, if_neg d2, if_neg d3, if_neg hne, if_neg d5, decide_eq_true (Or.inl d6)]) (hs.suf (n := 1) (by omega) rfl) hle (fun b q => hN.new b (blk_cut q))
      · have d6 := of_decide_eq_false d6
        refine ⟨by omega, ha2.at (i := 0) (by omega) (by omega) rfl fun x hx => ?_⟩
        exact hQ _ _ _ _ (by rw [doesL, if_neg d, if_neg d1, if_neg d2, if_neg d3, if_neg hne, if_neg d5, show xs[0]? = some x from hx]; simp [d6]) (hs.suf (n := 1) (by omega) rfl) hle (fun b q => hN.new b (blk_cut q))
  refine ⟨fun d => j2 _ ?_, fun d => j2 _ ?_⟩
  · have d := of_decide_eq_true d
    simp [d]
  · have d := of_decide_eq_false d
    simp [d]

def doL (xs : List Int) (c : Cl) (most : Int) : List Int × Bool :=
  if c.2.2.2.2.2.1 = 3 then (xs, decide ((xs.length : Int) = most))
  else if c.2.2.2.2.2.1 = 5 then (xs, decide (xs.length = 0))
  else if c.2.2.2.2.2.1 = 6 then (xs, true)
  else if c.2.1 = 0 then (if most ≤ (xs.length : Int) then (xs, false) else (xs ++ [c.2.2.1], true))
  else if xs.length = 0 then (xs, false)
  else if c.2.1 = 1 then (xs.take (xs.length - 1), decide (c.2.2.2.2.2.1 = 0 ∨ xs[xs.length - 1]? = some c.2.2.2.2.2.2.1))
  else (xs.drop 1, decide (c.2.2.2.2.2.1 = 0 ∨ xs[0]? = some c.2.2.2.2.2.2.1))

theorem do_spec {r : Sl} {c : Cl} {most : Int} {h : Heap} {xs : List Int} (ha : Arr h ki r xs) (hn : r.len ≤ 2097152) {Q : (Sl × (Bool × Unit)) → Heap → Prop}
    (hQ : ∀ l b s h', doL xs c most = (l, b) → Arr h' ki s l → le h h' → (∀ b, l ≠ [] → blkOf s b → (xs ≠ [] ∧ blkOf r b) ∨ h b = none) → Q (s, b, ()) h') : ref4_Do.M r c most h Q := by
  have hl : r.len = xs.length := ha.1.symm
  refine ⟨fun d => ?_, fun d => ?_⟩
  · have d := of_decide_eq_true d
    exact hQ _ _ _ _ (by rw [doL, if_pos d, hl]) ha (le.refl h) (fun b n q => .inl ⟨n, q⟩)
  have d := of_decide_eq_false d
  refine ⟨fun d1 => ?_, fun d1 => ?_⟩
  · have d1 := of_decide_eq_true d1
    exact hQ _ _ _ _ (by rw [doL, if_neg d, if_pos d1, hl]; simp) ha (le.refl h) (fun b n q => .inl ⟨n, q⟩)
  have d1 := of_decide_eq_false d1
  refine ⟨fun d2 => ?_, fun d2 => ?_⟩
  · have d2 := of_decide_eq_true d2
    exact hQ _ _ _ _ (by rw [doL, if_neg d, if_neg d1, if_pos d2]) ha (le.refl h) (fun b n q => .inl ⟨n, q⟩)
  have d2 := of_decide_eq_false d2
  refine ⟨fun d3 => ?_, fun d3 => ?_⟩
  · have d3 := of_decide_eq_true d3
    refine ⟨fun d4 => ?_, fun d4 => ?_⟩
    · have d4 := of_decide_eq_true d4
      exact hQ _ _ _ _ (by rw [doL, if_neg d, if_neg d1, if_neg d2, if_pos d3, if_pos (by omega)]) ha (le.refl h) (fun b n q => .inl ⟨n, q⟩)
    · have d4 := of_decide_eq_false d4
      refine New.mk0 (k := ki) fun p h1 hN => ?_
      refine hN.apps (ha.le hN.le) rfl rfl (by dsimp only; omega) fun t h2 hN2 => ?_
      refine hN2.app rfl rfl ?_ fun t2 h3 hN3 => ?_
      · have := hN2.len; simp at this; omega
      · exact hQ _ _ _ _ (by rw [doL, if_neg d, if_neg d1, if_neg d2, if_pos d3, if_neg (by omega), List.nil_append]) hN3.arr hN3.le (fun b _ q => .inr (hN3.new b q))
  have d3 := of_decide_eq_false d3
  refine ⟨fun d4 => ?_, fun d4 => ?_⟩
  · have d4 := of_decide_eq_true d4
    exact hQ _ _ _ _ (by rw [doL, if_neg d, if_neg d1, if_neg d2, if_neg d3, if_pos (by omega)]) ha (le.refl h) (fun b n q => .inl ⟨n, q⟩)
  have d4 := of_decide_eq_false d4
  have hne : ¬ xs.length = 0 := by omega
  have hpos : 0 < xs.length := by omega
  have hcap := ha.2.1
  have hw2 : w64 ((r.len : Int) - 1) = ((xs.length - 1 : Nat) : Int) := by rw [w64_of] <;> omega
  refine ⟨fun d5 => ?_, fun d5 => ?_⟩
  · have d5 := of_decide_eq_true d5
    rw [hw2]
    refine ⟨by omega, fun d6 => ?_, fun d6 => ?_⟩
    · have d6 := of_decide_eq_true d6
      exact hQ _ _ _ _ (by rw [doL, if_neg d, if_neg d1, if_neg d2, if_neg d3, if_neg hne, if_pos d5, decide_eq_true (Or.inl d6)]; rfl) (ha.pre (by omega)) (le.refl h) (fun b n q => .inl ⟨fun e => n (by rw [e]; simp), blk_cut q⟩)
    · have d6 := of_decide_eq_false d6
      refine ⟨by omega, ha.at (i := ((xs.length - 1 : Nat) : Int)) (by omega) (by omega) rfl fun x hx => ?_⟩
      rw [Int.toNat_natCast] at hx
      exact hQ _ _ _ _ (by rw [doL, if_neg d, if_neg d1, if_neg d2, if_neg d3, if_neg hne, if_pos d5, hx]; simp [d6]) (ha.pre (by omega)) (le.refl h) (fun b n q => .inl ⟨fun e => n (by rw [e]; simp), blk_cut q⟩)
  · have d5 := of_decide_eq_false d5
    refine ⟨by omega, fun d6 => ?_, fun d6 => ?_⟩
    · have d6 := of_decide_eq_true d6
      exact hQ _ _ _ _ (by rw [doL, if_neg d, if_neg d1, if_neg d2, if_neg d3, if_neg hne, if_neg d5, decide_eq_true (Or.inl d6)]) (ha.suf (n := 1) (by omega) rfl) (le.refl h) (fun b n q => .inl ⟨fun e => n (by rw [e]; simp), blk_cut q⟩)
    · have d6 := of_decide_eq_false d6
      refine ⟨by omega, ha.at (i := 0) (by omega) (by omega) rfl fun x hx => ?_⟩
      exact hQ _ _ _ _ (by rw [doL, if_neg d, if_neg d1, if_neg d2, if_neg d3, if_neg hne, if_neg d5, show xs[0]? = some x from hx]; simp [d6]) (ha.suf (n := 1) (by omega) rfl) (le.refl h) (fun b n q => .inl ⟨fun e => n (by rw [e]; simp), blk_cut q⟩)

theorem clone_spec {s : Sl} {h : Heap} {xs : List Int} (ha : Arr h ki s xs) (hn : s.len ≤ 2097152) {Q : Sl → Heap → Prop} (hQ : ∀ r h', New h h' ki r xs → Q r h') : slices_Clone_int64_int64.M s h Q := by
  refine ⟨fun d => ?_, fun d => ?_⟩
  · have hx : xs = [] := by
      have := ha.2.2
      revert this
      cases e : s.a with
      | none => intro q; exact List.eq_nil_of_length_eq_zero (by rw [ha.1]; exact q)
      | some a => rw [e] at d; cases d
    subst hx
    exact hQ _ _ (New.nil h ki)
  · refine New.mk0 (k := ki) fun p h1 hN => ?_
    exact hN.apps (ha.le hN.le) rfl rfl (by dsimp only; omega) fun t h2 hN2 => hQ _ _ hN2

abbrev Td := Den kapiTodo
/-- The call that the deque answers to a todo. -/
def askL (xs : List Int) (t : Td) (most i : Int) : Cl :=
  (if t.1 = 2 then 1 else 0, (t.1, (if t.1 = 0 then t.2.1 else 0, (i, (i,
    (if t.1 = 0 then (if (xs.length : Int) < most then 2 else 3) else if xs.length = 0 then 5 else 4,
    (if t.1 = 0 then 0 else if xs.length = 0 then 0 else if t.1 = 1 then xs[xs.length - 1]?.getD 0 else xs[0]?.getD 0, ())))))))

/-- A step of the plain deque. -/
def stepL (most : Int) (st : List Cl × List Int) (t : Td) : List Cl × List Int :=
  (st.1 ++ [askL st.2 t most (st.1.length : Int)], (doL st.2 (askL st.2 t most (st.1.length : Int)) most).1)
def runL (most : Int) (ts : List Td) : List Cl × List Int := ts.foldl (stepL most) ([], [])
theorem runL_succ (most : Int) (ts : List Td) {i : Nat} (h : i < ts.length) : runL most (ts.take (i + 1)) = stepL most (runL most (ts.take i)) ts[i] := by
  unfold runL
  rw [take_succ' ts h, List.foldl_append]
  rfl

theorem doL_len (xs : List Int) (t : Td) (most i : Int) (hm : (xs.length : Int) ≤ most) : ((doL xs (askL xs t most i) most).1.length : Int) ≤ most ∧ (doL xs (askL xs t most i) most).1.length ≤ xs.length + 1 := by
  unfold doL askL
  dsimp only
  by_cases h0 : t.1 = 0
  · simp only [h0, if_true]
    by_cases h1 : (xs.length : Int) < most
    · simp only [h1, if_true]
      have : ¬ most ≤ (xs.length : Int) := by omega
      simp [this]; omega
    · simp [h1]; omega
  · simp only [h0, if_false]
    by_cases h1 : xs.length = 0
    · simp [h1]; omega
    · simp only [h1, if_false]
      by_cases h2 : t.1 = 1
      · simp [h2]; omega
      · simp [h2]; omega

theorem does_do (xs : List Int) (t : Td) (most i : Int) (hk : t.1 = 0 ∨ t.1 = 1 ∨ t.1 = 2) : (doesL xs (askL xs t most i) most).1 = (doL xs (askL xs t most i) most).1 := by
  unfold doL doesL askL
  dsimp only
  by_cases h0 : t.1 = 0
  · simp only [h0, if_true]
    by_cases h1 : (xs.length : Int) < most
    · have : ¬ most ≤ (xs.length : Int) := by omega
      simp [h1, this]
    · simp [h1]
  · simp only [h0, if_false]
    by_cases h1 : xs.length = 0
    · simp [h1]
    · simp [h1]

theorem runL_len (most : Int) (hm : 1 ≤ most) (ts : List Td) : ∀ i, i ≤ ts.length → (runL most (ts.take i)).1.length = i ∧ (runL most (ts.take i)).2.length ≤ i ∧ ((runL most (ts.take i)).2.length : Int) ≤ most
  | 0, _ => by simp [runL]; omega
  | i + 1, h => by
    obtain ⟨a, b, c⟩ := runL_len most hm ts i (by omega)
    rw [runL_succ most ts h]
    have := doL_len (runL most (ts.take i)).2 ts[i] most ((runL most (ts.take i)).1.length : Int) c
    refine ⟨by simp [stepL, a], ?_, this.1⟩
    show (doL _ _ _).1.length ≤ i + 1
    omega

/-- 4.4: the error. -/
def serE (ts : List Td) (most : Int) : Int :=
  if 40 < ts.length then 2 else if ¬ (1 ≤ most ∧ most ≤ 4096) then 3 else if ∃ t ∈ ts, ¬ (t.1 = 0 ∨ t.1 = 1 ∨ t.1 = 2) then 31 else 0

theorem serE_ok {ts : List Td} {most : Int} (h1 : ¬ 40 < ts.length) (h2 : 1 ≤ most ∧ most ≤ 4096) (h3 : ∀ t ∈ ts, t.1 = 0 ∨ t.1 = 1 ∨ t.1 = 2) : serE ts most = 0 := by
  unfold serE
  rw [if_neg h1, if_neg (fun q => q h2), if_neg]
  rintro ⟨t, ht, hb⟩
  exact hb (h3 t ht)

theorem kind_cases (k : Int) : (k = 0 ∨ k = 1 ∨ k = 2) ↔ (0 ≤ k ∧ k ≤ 2) := by omega
theorem kind_low {k : Int} (h : k < 0) : ¬ (k = 0 ∨ k = 1 ∨ k = 2) := by omega
theorem kind_high {k : Int} (h : 2 < k) : ¬ (k = 0 ∨ k = 1 ∨ k = 2) := by omega
theorem kind_in {k : Int} (h0 : ¬ k < 0) (h : ¬ 2 < k) : k = 0 ∨ k = 1 ∨ k = 2 := by omega

end Go.Mx
