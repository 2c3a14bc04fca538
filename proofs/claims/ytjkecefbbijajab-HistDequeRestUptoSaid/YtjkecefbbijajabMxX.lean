/-
  The deque of hist and of plunderref4: what a call makes of a row.
  hist.Serial: what it comes to; the law HistSerial in plain Lean.
-/
import Derived.Test.YtjkecefbbijajabMxU
set_option linter.unusedVariables false
set_option linter.unusedSimpArgs false
namespace Go.Mx

def doesL (xs : List Int) (c : Cl) (most : Int) : List Int × Bool :=
  if c.2.1 = 0 ∧ c.2.2.2.2.2.1 = 3 then (xs, decide ((xs.length : Int) = most))
  else if c.2.1 = 0 then (xs ++ [c.2.2.1], decide ((xs.length : Int) < most))
  else if c.2.2.2.2.2.1 = 6 then (xs, true)
  else if c.2.2.2.2.2.1 = 5 then (xs, decide (xs.length = 0))
  else if xs.length = 0 then (xs, false)
  else if c.2.1 = 1 then (xs.take (xs.length - 1), decide (c.2.2.2.2.2.1 ≠ 4 ∨ xs[xs.length - 1]? = some c.2.2.2.2.2.2.1))
  else (xs.drop 1, decide (c.2.2.2.2.2.1 ≠ 4 ∨ xs[0]? = some c.2.2.2.2.2.2.1))

theorem does_spec {r : Sl} {c : Cl} {most : Int} {h : Heap} {xs : List Int} (ha : Arr h ki r xs) (hn : r.len ≤ 2097152) {Q : (Sl × (Bool × Unit)) → Heap → Prop}
    (hQ : ∀ l b s h', doesL xs c most = (l, b) → Arr h' ki s l → le h h' → (∀ b, blkOf s b → h b = none) → Q (s, b, ()) h') : hist_row_does.M r c most h Q := by
  have hl : r.len = xs.length := ha.1.symm
  have hw : w64 ((r.len : Int) + 1) = ((r.len + 1 : Nat) : Int) := by rw [w64_of] <;> omega
  unfold hist_row_does.M
  rw [hw]
  refine make_new (by omega) (by omega) (by omega) (by omega) fun s h1 hN e1 e2 e3 => ?_
  have hsl : s.len = r.len := by omega
  have hsc : s.cap = r.len + 1 := by omega
  refine hN.own.copy hN.len (ha.le hN.le) (by omega) rfl rfl fun _ h2 hO hE => ?_
  have hle : le h h2 := le_ext hN.le hE hN.new
  have hN2 : New h h2 ki s xs := ⟨hO, by omega, hle, hN.new⟩
  have hs := hN2.arr
  have ha2 := ha.le hle
  have j2 : ∀ b : Bool, b = decide (c.2.1 = 0 ∧ c.2.2.2.2.2.1 = 3) → hist_row_does.j2 r c most Q s (b, ()) h2 := by
    rintro b rfl
    refine ⟨fun d => ?_, fun d => ?_⟩
    · have d := of_decide_eq_true d
      exact hQ _ _ _ _ (by simp [doesL, d, hl]) hs hle hN.new
    have d : ¬ (c.2.1 = 0 ∧ c.2.2.2.2.2.1 = 3) := of_decide_eq_false d
    refine ⟨fun d1 => ?_, fun d1 => ?_⟩
    · have d1 := of_decide_eq_true d1
      refine hN2.app rfl rfl (by omega) fun t h3 hN3 => ?_
      exact hQ _ _ _ _ (by rw [doesL, if_neg d, if_pos d1, hl]) hN3.arr hN3.le hN3.new
    have d1 := of_decide_eq_false d1
    refine ⟨fun d2 => ?_, fun d2 => ?_⟩
    · have d2 := of_decide_eq_true d2
      exact hQ _ _ _ _ (by rw [doesL, if_neg d, if_neg d1, if_pos d2]) hs hle hN.new
    have d2 := of_decide_eq_false d2
    refine ⟨fun d3 => ?_, fun d3 => ?_⟩
    · have d3 := of_decide_eq_true d3
      exact hQ _ _ _ _ (by rw [doesL, if_neg d, if_neg d1, if_neg d2, if_pos d3, hl]; simp) hs hle hN.new
    have d3 := of_decide_eq_false d3
    refine ⟨fun d4 => ?_, fun d4 => ?_⟩
    · have d4 := of_decide_eq_true d4
      exact hQ _ _ _ _ (by rw [doesL, if_neg d, if_neg d1, if_neg d2, if_neg d3, if_pos (by omega)]) hs hle hN.new
    have d4 := of_decide_eq_false d4
    have hne : ¬ xs.length = 0 := by omega
    have hpos : 0 < xs.length := by omega
    have hw1 : w64 ((s.len : Int) - 1) = ((xs.length - 1 : Nat) : Int) := by rw [w64_of] <;> omega
    have hw2 : w64 ((r.len : Int) - 1) = ((xs.length - 1 : Nat) : Int) := by rw [w64_of] <;> omega
    refine ⟨fun d5 => ?_, fun d5 => ?_⟩
    · have d5 := of_decide_eq_true d5
      rw [hw1, hw2]
      refine ⟨by omega, fun d6 => ?_, fun d6 => ?_⟩
      · have d6 := of_decide_eq_true d6
        exact hQ _ _ _ _ (by rw [doesL, if_neg d, if_neg d1, if_neg d2, if_neg d3, if_neg hne, if_pos d5, decide_eq_true (Or.inl d6)]; rfl) (hs.pre (by omega)) hle (fun b q => hN.new b (blk_cut q))
      · have d6 := of_decide_eq_false d6
        refine ⟨by omega, ha2.at (i := ((xs.length - 1 : Nat) : Int)) (by omega) (by omega) rfl fun x hx => ?_⟩
        rw [Int.toNat_natCast] at hx
        exact hQ _ _ _ _ (by rw [doesL, if_neg d, if_neg d1, if_neg d2, if_neg d3, if_neg hne, if_pos d5, hx]; simp [d6]) (hs.pre (by omega)) hle (fun b q => hN.new b (blk_cut q))
    · have d5 := of_decide_eq_false d5
      refine ⟨by omega, fun d6 => ?_, fun d6 => ?_⟩
      · have d6 := of_decide_eq_true d6
        exact hQ _ _ _ _ (by rw [doesL, if_neg d, if_neg d1, if_neg d2, if_neg d3, if_neg hne, if_neg d5, decide_eq_true (Or.inl d6)]) (hs.suf (n := 1) (by omega) rfl) hle (fun b q => hN.new b (blk_cut q))
      · have d6 := of_decide_eq_false d6
        refine ⟨by omega, ha2.at (i := 0) (by omega) (by omega) rfl fun x hx => ?_⟩
        exact hQ _ _ _ _ (by rw [doesL, if_neg d, if_neg d1, if_neg d2, if_neg d3, if_neg hne, if_neg d5, show xs[0]? = some x from hx]; simp [d6]) (hs.suf (n := 1) (by omega) rfl) hle (fun b q => hN.new b (blk_cut q))
  refine ⟨fun d => j2 _ ?_, fun d => j2 _ ?_⟩
  · have d := of_decide_eq_true d
    simp [d]
  · have d := of_decide_eq_false d
    simp [d]

def doL (xs : List Int) (c : Cl) (most : Int) : List Int × Bool :=
  if c.2.2.2.2.2.1 = 3 then (xs, decide ((xs.length : Int) = most))
  else if c.2.2.2.2.2.1 = 5 then (xs, decide (xs.length = 0))
  else if c.2.2.2.2.2.1 = 6 then (xs, true)
  else if c.2.1 = 0 then (if most ≤ (xs.length : Int) then (xs, false) else (xs ++ [c.2.2.1], true))
  else if xs.length = 0 then (xs, false)
  else if c.2.1 = 1 then (xs.take (xs.length - 1), decide (c.2.2.2.2.2.1 = 0 ∨ xs[xs.length - 1]? = some c.2.2.2.2.2.2.1))
  else (xs.drop 1, decide (c.2.2.2.2.2.1 = 0 ∨ xs[0]? = some c.2.2.2.2.2.2.1))

theorem do_spec {r : Sl} {c : Cl} {most : Int} {h : Heap} {xs : List Int} (ha : Arr h ki r xs) (hn : r.len ≤ 2097152) {Q : (Sl × (Bool × Unit)) → Heap → Prop}
    (hQ : ∀ l b s h', doL xs c most = (l, b) → Arr h' ki s l → le h h' → (∀ b, l ≠ [] → blkOf s b → (xs ≠ [] ∧ blkOf r b) ∨ h b = none) → Q (s, b, ()) h') : ref4_Do.M r c most h Q := by
  have hl : r.len = xs.length := ha.1.symm
  refine ⟨fun d => ?_, fun d => ?_⟩
  · have d := of_decide_eq_true d
    exact hQ _ _ _ _ (by rw [doL, if_pos d, hl]) ha (le.refl h) (fun b n q => .inl ⟨n, q⟩)
  have d := of_decide_eq_false d
  refine ⟨fun d1 => ?_, fun d1 => ?_⟩
  · have d1 := of_decide_eq_true d1
    exact hQ _ _ _ _ (by rw [doL, if_neg d, if_pos d1, hl]; simp) ha (le.refl h) (fun b n q => .inl ⟨n, q⟩)
  have d1 := of_decide_eq_false d1
  refine ⟨fun d2 => ?_, fun d2 => ?_⟩
  · have d2 := of_decide_eq_true d2
    exact hQ _ _ _ _ (by rw [doL, if_neg d, if_neg d1, if_pos d2]) ha (le.refl h) (fun b n q => .inl ⟨n, q⟩)
  have d2 := of_decide_eq_false d2
  refine ⟨fun d3 => ?_, fun d3 => ?_⟩
  · have d3 := of_decide_eq_true d3
    refine ⟨fun d4 => ?_, fun d4 => ?_⟩
    · have d4 := of_decide_eq_true d4
      exact hQ _ _ _ _ (by rw [doL, if_neg d, if_neg d1, if_neg d2, if_pos d3, if_pos (by omega)]) ha (le.refl h) (fun b n q => .inl ⟨n, q⟩)
    · have d4 := of_decide_eq_false d4
      refine New.mk0 (k := ki) fun p h1 hN => ?_
      refine hN.apps (ha.le hN.le) rfl rfl (by dsimp only; omega) fun t h2 hN2 => ?_
      refine hN2.app rfl rfl ?_ fun t2 h3 hN3 => ?_
      · have := hN2.len; simp at this; omega
      · exact hQ _ _ _ _ (by rw [doL, if_neg d, if_neg d1, if_neg d2, if_pos d3, if_neg (by omega), List.nil_append]) hN3.arr hN3.le (fun b _ q => .inr (hN3.new b q))
  have d3 := of_decide_eq_false d3
  refine ⟨fun d4 => ?_, fun d4 => ?_⟩
  · have d4 := of_decide_eq_true d4
    exact hQ _ _ _ _ (by rw [doL, if_neg d, if_neg d1, if_neg d2, if_neg d3, if_pos (by omega)]) ha (le.refl h) (fun b n q => .inl ⟨n, q⟩)
  have d4 := of_decide_eq_false d4
  have hne : ¬ xs.length = 0 := by omega
  have hpos : 0 < xs.length := by omega
  have hcap := ha.2.1
  have hw2 : w64 ((r.len : Int) - 1) = ((xs.length - 1 : Nat) : Int) := by rw [w64_of] <;> omega
  refine ⟨fun d5 => ?_, fun d5 => ?_⟩
  · have d5 := of_decide_eq_true d5
    rw [hw2]
    refine ⟨by omega, fun d6 => ?_, fun d6 => ?_⟩
    · have d6 := of_decide_eq_true d6
      exact hQ _ _ _ _ (by rw [doL, if_neg d, if_neg d1, if_neg d2, if_neg d3, if_neg hne, if_pos d5, decide_eq_true (Or.inl d6)]; rfl) (ha.pre (by omega)) (le.refl h) (fun b n q => .inl ⟨fun e => n (by rw [e]; simp), blk_cut q⟩)
    · have d6 := of_decide_eq_false d6
      refine ⟨by omega, ha.at (i := ((xs.length - 1 : Nat) : Int)) (by omega) (by omega) rfl fun x hx => ?_⟩
      rw [Int.toNat_natCast] at hx
      exact hQ _ _ _ _ (by rw [doL, if_neg d, if_neg d1, if_neg d2, if_neg d3, if_neg hne, if_pos d5, hx]; simp [d6]) (ha.pre (by omega)) (le.refl h) (fun b n q => .inl ⟨fun e => n (by rw [e]; simp), blk_cut q⟩)
  · have d5 := of_decide_eq_false d5
    refine ⟨by omega, fun d6 => ?_, fun d6 => ?_⟩
    · have d6 := of_decide_eq_true d6
      exact hQ _ _ _ _ (by rw [doL, if_neg d, if_neg d1, if_neg d2, if_neg d3, if_neg hne, if_neg d5, decide_eq_true (Or.inl d6)]) (ha.suf (n := 1) (by omega) rfl) (le.refl h) (fun b n q => .inl ⟨fun e => n (by rw [e]; simp), blk_cut q⟩)
    · have d6 := of_decide_eq_false d6
      refine ⟨by omega, ha.at (i := 0) (by omega) (by omega) rfl fun x hx => ?_⟩
      exact hQ _ _ _ _ (by rw [doL, if_neg d, if_neg d1, if_neg d2, if_neg d3, if_neg hne, if_neg d5, show xs[0]? = some x from hx]; simp [d6]) (ha.suf (n := 1) (by omega) rfl) (le.refl h) (fun b n q => .inl ⟨fun e => n (by rw [e]; simp), blk_cut q⟩)

theorem clone_spec {s : Sl} {h : Heap} {xs : List Int} (ha : Arr h ki s xs) (hn : s.len ≤ 2097152) {Q : Sl → Heap → Prop} (hQ : ∀ r h', New h h' ki r xs → Q r h') : slices_Clone_int64_int64.M s h Q := by
  refine ⟨fun d => ?_, fun d => ?_⟩
  · have hx : xs = [] := by
      have := ha.2.2
      revert this
      cases e : s.a with
      | none => intro q; exact List.eq_nil_of_length_eq_zero (by rw [ha.1]; exact q)
      | some a => rw [e] at d; cases d
    subst hx
    exact hQ _ _ (New.nil h ki)
  · refine New.mk0 (k := ki) fun p h1 hN => ?_
    exact hN.apps (ha.le hN.le) rfl rfl (by dsimp only; omega) fun t h2 hN2 => hQ _ _ hN2

abbrev Td := Den kapiTodo
/-- The call that the deque answers to a todo. -/
def askL (xs : List Int) (t : Td) (most i : Int) : Cl :=
  (if t.1 = 2 then 1 else 0, (t.1, (if t.1 = 0 then t.2.1 else 0, (i, (i,
    (if t.1 = 0 then (if (xs.length : Int) < most then 2 else 3) else if xs.length = 0 then 5 else 4,
    (if t.1 = 0 then 0 else if xs.length = 0 then 0 else if t.1 = 1 then xs[xs.length - 1]?.getD 0 else xs[0]?.getD 0, ())))))))

/-- A step of the plain deque. -/
def stepL (most : Int) (st : List Cl × List Int) (t : Td) : List Cl × List Int :=
  (st.1 ++ [askL st.2 t most (st.1.length : Int)], (doL st.2 (askL st.2 t most (st.1.length : Int)) most).1)
def runL (most : Int) (ts : List Td) : List Cl × List Int := ts.foldl (stepL most) ([], [])
theorem runL_succ (most : Int) (ts : List Td) {i : Nat} (h : i < ts.length) : runL most (ts.take (i + 1)) = stepL most (runL most (ts.take i)) ts[i] := by
  unfold runL
  rw [take_succ' ts h, List.foldl_append]
  rfl

theorem doL_len (xs : List Int) (t : Td) (most i : Int) (hm : (xs.length : Int) ≤ most) : ((doL xs (askL xs t most i) most).1.length : Int) ≤ most ∧ (doL xs (askL xs t most i) most).1.length ≤ xs.length + 1 := by
  unfold doL askL
  dsimp only
  by_cases h0 : t.1 = 0
  · simp only [h0, if_true]
    by_cases h1 : (xs.length : Int) < most
    · simp only [h1, if_true]
      have : ¬ most ≤ (xs.length : Int) := by omega
      simp [this]; omega
    · simp [h1]; omega
  · simp only [h0, if_false]
    by_cases h1 : xs.length = 0
    · simp [h1]; omega
    · simp only [h1, if_false]
      by_cases h2 : t.1 = 1
      · simp [h2]; omega
      · simp [h2]; omega

theorem does_do (xs : List Int) (t : Td) (most i : Int) (hk : t.1 = 0 ∨ t.1 = 1 ∨ t.1 = 2) : (doesL xs (askL xs t most i) most).1 = (doL xs (askL xs t most i) most).1 := by
  unfold doL doesL askL
  dsimp only
  by_cases h0 : t.1 = 0
  · simp only [h0, if_true]
    by_cases h1 : (xs.length : Int) < most
    · have : ¬ most ≤ (xs.length : Int) := by omega
      simp [h1, this]
    · simp [h1]
  · simp only [h0, if_false]
    by_cases h1 : xs.length = 0
    · simp [h1]
    · simp [h1]

theorem runL_len (most : Int) (hm : 1 ≤ most) (ts : List Td) : ∀ i, i ≤ ts.length → (runL most (ts.take i)).1.length = i ∧ (runL most (ts.take i)).2.length ≤ i ∧ ((runL most (ts.take i)).2.length : Int) ≤ most
  | 0, _ => by simp [runL]; omega
  | i + 1, h => by
    obtain ⟨a, b, c⟩ := runL_len most hm ts i (by omega)
    rw [runL_succ most ts h]
    have := doL_len (runL most (ts.take i)).2 ts[i] most ((runL most (ts.take i)).1.length : Int) c
    refine ⟨by simp [stepL, a], ?_, this.1⟩
    show (doL _ _ _).1.length ≤ i + 1
    omega

/-- 4.4: the error. -/
def serE (ts : List Td) (most : Int) : Int :=
  if 40 < ts.length then 2 else if ¬ (1 ≤ most ∧ most ≤ 4096) then 3 else if ∃ t ∈ ts, ¬ (t.1 = 0 ∨ t.1 = 1 ∨ t.1 = 2) then 31 else 0

theorem serE_ok {ts : List Td} {most : Int} (h1 : ¬ 40 < ts.length) (h2 : 1 ≤ most ∧ most ≤ 4096) (h3 : ∀ t ∈ ts, t.1 = 0 ∨ t.1 = 1 ∨ t.1 = 2) : serE ts most = 0 := by
  unfold serE
  rw [if_neg h1, if_neg (fun q => q h2), if_neg]
  rintro ⟨t, ht, hb⟩
  exact hb (h3 t ht)

theorem kind_cases (k : Int) : (k = 0 ∨ k = 1 ∨ k = 2) ↔ (0 ≤ k ∧ k ≤ 2) := by omega
theorem kind_low {k : Int} (h : k < 0) : ¬ (k = 0 ∨ k = 1 ∨ k = 2) := by omega
theorem kind_high {k : Int} (h : 2 < k) : ¬ (k = 0 ∨ k = 1 ∨ k = 2) := by omega
theorem kind_in {k : Int} (h0 : ¬ k < 0) (h : ¬ 2 < k) : k = 0 ∨ k = 1 ∨ k = 2 := by omega

end Go.Mx

namespace Go.Mx

theorem good_spec {most : Int} {h : Heap} {Q : Bool → Heap → Prop} (hQ : Q (decide (1 ≤ most ∧ most ≤ 4096)) h) : hist_goodMost.M most h Q := by
  refine ⟨fun d => ?_, fun d => ?_⟩
  · have d : (1 : Int) ≤ most := of_decide_eq_true d
    have : decide (most ≤ 4096) = decide (1 ≤ most ∧ most ≤ 4096) := by simp [d]
    rw [this]; exact hQ
  · have d : ¬ (1 : Int) ≤ most := of_decide_eq_false d
    rw [decide_eq_false (fun q => d q.1)] at hQ
    exact hQ

theorem Arr.empty {h h' : Heap} {k : Kd} {s : Sl} (c : Arr h k s ([] : List (Den k))) : Arr h' k s [] := by
  refine ⟨c.1, c.2.1, ?_⟩
  have q := c.2.2
  cases e : s.a with
  | none => rw [e] at q; exact q
  | some a => intro j v hj; cases hj
theorem Arr.ext' {h h' : Heap} {S : Nat → Prop} (e : Ext S h h') {k : Kd} {s : Sl} {xs : List (Den k)} (c : Arr h k s xs) (n : xs ≠ [] → ∀ b, blkOf s b → ¬ S b) : Arr h' k s xs := by
  by_cases hx : xs = []
  · subst hx; exact c.empty
  · exact c.ext e (n hx)

theorem hserial_spec {todos : Sl} {most : Int} {h : Heap} {ts : List Td} (ha : Arr h kapiTodo todos ts) {c1 : Int → Heap → (Bool → Heap → Prop) → Prop} {c2 : Sl → Cl → Int → Heap → ((Sl × (Bool × Unit)) → Heap → Prop) → Prop} {c3 : Sl → Heap → (Sl → Heap → Prop) → Prop}
    (i1 : ∀ {a h Q}, hist_goodMost.M a h Q → c1 a h Q) (i2 : ∀ {a b c h Q}, hist_row_does.M a b c h Q → c2 a b c h Q) (i3 : ∀ {a h Q}, slices_Clone_int64_int64.M a h Q → c3 a h Q) {Q : (Sl × (Sl × (Int × Unit))) → Heap → Prop}
    (hE : ∀ e, e = serE ts most → e ≠ 0 → Q (⟨none, 0, 0⟩, ⟨none, 0, 0⟩, e, ()) h)
    (hQ : serE ts most = 0 → ∀ s r h', New h h' kapiCall s (runL most ts).1 → New h h' ki r (runL most ts).2 → (∀ b, blkOf r b → ¬ blkOf s b) → Q (s, r, 0, ()) h') : hist_Serial.M c1 c2 c3 todos most h Q := by
  have hl : todos.len = ts.length := ha.1.symm
  refine ⟨fun d => ?_, fun d => ?_⟩
  · have d := of_decide_eq_true d
    exact hE 2 (by unfold serE; rw [if_pos (by omega)]) (by decide)
  have d := of_decide_eq_false d
  have d' : ¬ 40 < ts.length := by omega
  have hw : ∀ i : Nat, i < todos.len → w64 ((i : Int) + 1) = ((i + 1 : Nat) : Int) := fun i hi => by rw [w64_of] <;> omega
  refine i1 (good_spec ⟨fun g => ?_, fun g => ?_⟩)
  · have g : ¬ (1 ≤ most ∧ most ≤ 4096) := fun q => by rw [decide_eq_true q] at g; cases g
    exact hE 3 (by unfold serE; rw [if_neg d', if_pos g]) (by decide)
  have g : 1 ≤ most ∧ most ≤ 4096 := Decidable.byContradiction fun q => by rw [decide_eq_false q] at g; cases g
  refine Loop.up todos.len (fun s => s.1) (fun i s h' => h' = h ∧ ∀ t ∈ ts.take i, t.1 = 0 ∨ t.1 = 1 ∨ t.1 = 2) rfl ⟨rfl, fun t ht => by simp at ht⟩ ?_
  rintro i ⟨j, u⟩ h' go hi hc ⟨rfl, hI⟩ hgo
  dsimp only at hc; subst hc
  refine ⟨fun c => ?_, fun c => ?_⟩
  · have c : (i : Int) < (todos.len : Int) := of_decide_eq_true c
    have c' : i < todos.len := by omega
    have hlt : i < ts.length := by omega
    refine ⟨⟨Int.natCast_nonneg i, c⟩, ha.at (Int.natCast_nonneg i) c rfl ?_⟩
    intro t ht
    obtain rfl : ts[i] = t := by simpa [hlt] using ht
    have j2 : ∀ b : Bool, b = decide (¬ (ts[i].1 = 0 ∨ ts[i].1 = 1 ∨ ts[i].1 = 2)) → hist_Serial.j2 Q go ((i : Int), u) (b, ()) h' := by
      rintro b rfl
      refine ⟨fun e => ?_, fun e => ?_⟩
      · have e : ¬ (ts[i].1 = 0 ∨ ts[i].1 = 1 ∨ ts[i].1 = 2) := of_decide_eq_true e
        exact hE 31 (by unfold serE; rw [if_neg d', if_neg (fun q => q g), if_pos ⟨ts[i], by simp, e⟩]) (by decide)
      · have e : ¬ ¬ (ts[i].1 = 0 ∨ ts[i].1 = 1 ∨ ts[i].1 = 2) := of_decide_eq_false e
        have e := Classical.not_not.1 e
        refine hgo c' _ _ (hw i c') ⟨rfl, fun t ht => ?_⟩
        rw [take_succ' ts hlt] at ht
        rcases List.mem_append.1 ht with q | q
        · exact hI t q
        · obtain rfl : t = ts[i] := by simpa using q
          exact e
    refine ⟨fun e => ⟨fun f => j2 _ ?_, fun f => j2 _ ?_⟩, fun e => j2 _ ?_⟩
    · have e := of_decide_eq_true e
      have f := of_decide_eq_true f
      simp [e, f]
    · have f := of_decide_eq_false f
      simp only [ne_eq, Classical.not_not] at f
      simp [f]
    · have e := of_decide_eq_false e
      simp only [ne_eq, Classical.not_not] at e
      simp [e]
  have c : ¬ (i : Int) < (todos.len : Int) := of_decide_eq_false c
  rw [List.take_of_length_le (by omega)] at hI
  have hok := serE_ok d' g hI
  clear hgo c hi
  refine Loop.up todos.len (fun s => s.2.2.1) (fun i s k => Arr k ki s.2.1 (runL most (ts.take i)).2 ∧ New h' k kapiCall s.1 (runL most (ts.take i)).1 ∧ ((runL most (ts.take i)).2 ≠ [] → ∀ b, blkOf s.2.1 b → ¬ blkOf s.1 b)) rfl ⟨(New.nil h' ki).arr, New.nil h' _, fun _ b q => by obtain ⟨a, e, _⟩ := q; cases e⟩ ?_
  rintro i ⟨cs, row, j, u⟩ k go hi hc ⟨hA, hN, hap⟩ hgo
  dsimp only at hc hA hN hap; subst hc
  obtain ⟨n1, n2, n3⟩ := runL_len most g.1 ts i (by omega)
  have hrl : row.len = (runL most (ts.take i)).2.length := hA.1.symm
  refine ⟨fun c => ?_, fun c => ?_⟩
  · have c : (i : Int) < (todos.len : Int) := of_decide_eq_true c
    have c' : i < todos.len := by omega
    have hlt : i < ts.length := by omega
    refine ⟨⟨Int.natCast_nonneg i, c⟩, (ha.le hN.le).at (Int.natCast_nonneg i) c rfl ?_⟩
    intro t ht
    obtain rfl : ts[i] = t := by simpa [hlt] using ht
    have hk3 := hI ts[i] (by simp)
    have hs := runL_succ most ts hlt
    unfold stepL at hs
    rw [n1] at hs
    generalize ecall : askL (runL most (ts.take i)).2 ts[i] most (i : Int) = call at hs
    have hdd : (doesL (runL most (ts.take i)).2 call most).1 = (doL (runL most (ts.take i)).2 call most).1 := by rw [← ecall]; exact does_do _ _ _ _ hk3
    have j4 : hist_Serial.j4 c2 most go (cs, row, (i : Int), u) (call, ()) k := by
      refine i2 (does_spec hA (by omega) fun l b s k1 e1 hA1 hle1 hb1 => ?_)
      have hcl : cs.len = i := by rw [← hN.len, n1]
      have hap1 : ∀ b, blkOf s b → ¬ blkOf cs b := fun b q r => hN.own.blk r (hb1 b q)
      have hll : (doL (runL most (ts.take i)).2 call most).1 = l := by rw [← hdd]; exact congrArg Prod.fst e1
      refine (hN.more hle1).app3 rfl rfl (by omega) fun t2 k2 hN2 hx hb2 => ?_
      refine hgo c' _ _ (hw i c') ⟨?_, ?_, ?_⟩
      · rw [hs, hll]; exact hA1.ext hx hap1
      · rw [hs]; exact hN2
      · rw [hs, hll]
        intro hn b q r
        rcases hb2 b r with x | x
        · exact hap1 b q x
        · exact hA1.live hn (by decide) q x
    have j5 : ∀ cd v arg : Int, arg = (if ts[i].1 = 0 then ts[i].2.1 else 0) → cd = (if ts[i].1 = 0 then (if ((runL most (ts.take i)).2.length : Int) < most then 2 else 3) else if (runL most (ts.take i)).2.length = 0 then 5 else 4) →
        v = (if ts[i].1 = 0 then 0 else if (runL most (ts.take i)).2.length = 0 then 0 else if ts[i].1 = 1 then (runL most (ts.take i)).2[(runL most (ts.take i)).2.length - 1]?.getD 0 else (runL most (ts.take i)).2[0]?.getD 0) →
        hist_Serial.j5 c2 most go (cs, row, (i : Int), u) ts[i] ((0, (ts[i].1, (arg, ((i : Int), ((i : Int), (cd, (v, ()))))))), ()) k := by
      intro cd v arg e0 e1 e2
      unfold askL at ecall
      rw [← e0, ← e1, ← e2] at ecall
      refine ⟨fun f => ?_, fun f => ?_⟩
      · have f := of_decide_eq_true f
        rw [if_pos f] at ecall
        rw [← ecall] at j4
        exact j4
      · have f := of_decide_eq_false f
        rw [if_neg f] at ecall
        rw [← ecall] at j4
        exact j4
    generalize (runL most (ts.take i)).2 = xs at *
    refine ⟨fun f => ?_, fun f => ?_⟩
    · have f := of_decide_eq_true f
      refine ⟨fun e => ?_, fun e => ?_⟩
      · have e : (row.len : Int) = most := of_decide_eq_true e
        exact j5 _ _ _ (by rw [if_pos f]) (by rw [if_pos f, if_neg (by omega)]) (by rw [if_pos f])
      · have e : ¬ (row.len : Int) = most := of_decide_eq_false e
        exact j5 _ _ _ (by rw [if_pos f]) (by rw [if_pos f, if_pos (by omega)]) (by rw [if_pos f])
    have f := of_decide_eq_false f
    refine ⟨fun e => ?_, fun e => ?_⟩
    · have e : (row.len : Int) = 0 := of_decide_eq_true e
      have e' : xs.length = 0 := by omega
      exact j5 _ _ _ (by rw [if_neg f]) (by rw [if_neg f, if_pos e']) (by rw [if_neg f, if_pos e'])
    have e : ¬ (row.len : Int) = 0 := of_decide_eq_false e
    have e' : ¬ xs.length = 0 := by omega
    have hw2 : w64 ((row.len : Int) - 1) = ((xs.length - 1 : Nat) : Int) := by rw [w64_of] <;> omega
    refine ⟨fun q => ?_, fun q => ?_⟩
    · have q := of_decide_eq_true q
      dsimp only
      rw [hw2]
      refine ⟨by omega, hA.at (i := ((xs.length - 1 : Nat) : Int)) (by omega) (by omega) rfl fun x hx => ?_⟩
      rw [Int.toNat_natCast] at hx
      exact j5 _ _ _ (by rw [if_neg f]) (by rw [if_neg f, if_neg e']) (by rw [if_neg f, if_neg e', if_pos q, hx]; rfl)
    · have q := of_decide_eq_false q
      refine ⟨by dsimp only; omega, hA.at (i := 0) (by omega) (by omega) rfl fun x hx => ?_⟩
      exact j5 _ _ _ (by rw [if_neg f]) (by rw [if_neg f, if_neg e']) (by rw [if_neg f, if_neg e', if_neg q, show xs[0]? = some x from hx]; rfl)
  · have c : ¬ (i : Int) < (todos.len : Int) := of_decide_eq_false c
    rw [List.take_of_length_le (by omega)] at hA hN hrl n2
    refine i3 (clone_spec hA (by omega) fun r k1 hN1 => ?_)
    exact hQ hok _ _ _ (hN.more hN1.le) ⟨hN1.own, hN1.len, hN.le.trans hN1.le, fun b q => hN.le.none (hN1.new b q)⟩ fun b q r => hN.own.blk r (hN1.new b q)

/-- A slice of xs, with one hidden element behind it. -/
structure BayK (h0 h : Heap) (k : Kd) (s : Sl) (xs : List (Den k)) (m : Den k) : Prop where
  own : Own h k s (xs ++ [m])
  len : xs.length = s.len
  cap : s.len + 1 ≤ s.cap
  le : le h0 h
  new : ∀ b, blkOf s b → h0 b = none
theorem cut_zero (s : Sl) (n sz : Nat) : s.cut 0 n sz = ⟨s.a, n, s.cap⟩ := by
  unfold Sl.cut
  have : (if s.cap = 0 then s.a else s.a.map (·.add (0 * sz))) = s.a := by
    split
    · rfl
    · rw [Nat.zero_mul]
      cases s.a <;> rfl
  rw [this]; rfl
theorem New.bay {h0 h : Heap} {k : Kd} {t : Sl} {xs : List (Den k)} {m : Den k} (o : New h0 h k t (xs ++ [m])) {n sz : Nat} (e : xs.length = n) : BayK h0 h k (t.cut 0 n sz) xs m := by
  rw [cut_zero]
  have hl := o.len
  rw [List.length_append, e] at hl
  rcases o.own with ⟨_, e⟩ | ⟨b, e1, e2, e3, e4⟩
  · simp at e
  · rw [List.length_append, e] at e3
    exact ⟨.inr ⟨b, e1, by simp; omega, by simpa [e] using e3, e4⟩, e, e3, o.le, fun q hq => o.new q hq⟩
theorem BayK.arr {h0 h : Heap} {k : Kd} {s : Sl} {xs : List (Den k)} {m : Den k} (o : BayK h0 h k s xs m) : Arr h k s xs := by
  have := o.own.arr
  rwa [← o.len, List.take_left' rfl] at this
theorem BayK.ext {h0 h h' : Heap} {k : Kd} {s : Sl} {xs : List (Den k)} {m : Den k} (o : BayK h0 h k s xs m) {S : Nat → Prop} (e : Ext S h h') (n : ∀ b, blkOf s b → ¬ S b) (f : ∀ b, S b → h0 b = none) : BayK h0 h' k s xs m :=
  ⟨o.own.ext e n, o.len, o.cap, le_ext o.le e f, o.new⟩
theorem BayK.more {h0 h h' : Heap} {k : Kd} {s : Sl} {xs : List (Den k)} {m : Den k} (o : BayK h0 h k s xs m) (l : Go.Mx.le h h') : BayK h0 h' k s xs m := ⟨o.own.le l, o.len, o.cap, o.le.trans l, o.new⟩
theorem BayK.room {h0 h : Heap} {k : Kd} {s : Sl} {xs : List (Den k)} {m : Den k} (o : BayK h0 h k s xs m) {sz : Nat} : Arr h k (s.cut 0 (s.len + 1) sz) (xs ++ [m]) := by
  rw [cut_zero]
  have ho : Own h k ⟨s.a, s.len + 1, s.cap⟩ (xs ++ [m]) := by
    rcases o.own with ⟨_, e⟩ | ⟨b, e1, e2, e3, e4⟩
    · simp at e
    · exact .inr ⟨b, e1, by simp [o.len], e3, e4⟩
  exact ho.full (by simp [o.len])
theorem td_cells {h : Heap} {s : Sl} {ts : List Td} (ha : Arr h kapiTodo s ts) {i : Nat} (hi : i < ts.length) : ∃ a, s.a = some a ∧ cellsAt h ((a.add (i * 2)).add 0) (Kd.cells ki ts[i].1) ∧ cellsAt h ((a.add (i * 2)).add 1) (Kd.cells ki ts[i].2.1) := by
  obtain ⟨a, n, m⟩ := s
  cases a with
  | none => have := ha.2.2; have := ha.1; dsimp only at *; omega
  | some a =>
    have := cellsAt_el ha.2.2 (i := i) (x := ts[i]) (by simp [hi])
    have e : (Kd.cells kapiTodo ts[i]) = Kd.cells ki ts[i].1 ++ Kd.cells ki ts[i].2.1 := rfl
    rw [e] at this
    exact ⟨a, rfl, (cellsAt_append this).1, (cellsAt_append this).2⟩

theorem sameInts_spec {a b : Sl} {h : Heap} {xs : List Int} (ha : Arr h ki a xs) (hb : Arr h ki b xs) (hn : a.len ≤ 2097152) {Q : Bool → Heap → Prop} (hQ : Q true h) : law4_sameInts.M a b h Q := by
  have hl : a.len = b.len := by rw [← ha.1, ← hb.1]
  refine ⟨fun c => absurd (of_decide_eq_true c) (by omega), fun _ => ?_⟩
  refine Loop.up a.len (fun s => s.1) (fun i s h' => h' = h) rfl rfl ?_
  rintro i ⟨j, u⟩ h' go hi hc hN hgo
  dsimp only at hc; subst hc; subst hN
  refine ⟨fun c => ?_, fun c => hQ⟩
  have c : (i : Int) < (a.len : Int) := of_decide_eq_true c
  have c' : i < a.len := by omega
  refine ⟨⟨by omega, c⟩, ?_⟩
  obtain ⟨aa, an, am⟩ := a
  cases aa with
  | none => have := ha.2.2; dsimp only at this c'; omega
  | some aa =>
  refine ⟨⟨by omega, by omega⟩, ?_⟩
  obtain ⟨ba, bn, bm⟩ := b
  cases ba with
  | none => have := hb.2.2; dsimp only at this hl c'; omega
  | some ba =>
  have hlt : i < xs.length := by rw [ha.1]; exact c'
  refine ⟨xs[i], cellsAt_el ha.2.2 (by simp [hlt]), xs[i], cellsAt_el hb.2.2 (by simp [hlt]), fun d => absurd rfl (of_decide_eq_true d), fun d => ?_⟩
  exact hgo c' _ _ (by show w64 ((i : Int) + 1) = _; rw [w64_of] <;> omega) rfl

def csE (ts : List Td) (most : Int) : List Cl := if serE ts most = 0 then (runL most ts).1 else []
def rsE (ts : List Td) (most : Int) : List Int := if serE ts most = 0 then (runL most ts).2 else []

theorem serE_most {ts : List Td} {most : Int} (h : serE ts most = 0) : 1 ≤ most := by
  unfold serE at h
  split at h
  · cases h
  · split at h
    · cases h
    · rename_i q; exact (Classical.not_not.1 q).1
theorem csE_len (ts : List Td) (most : Int) : (csE ts most).length ≤ ts.length ∧ (rsE ts most).length ≤ ts.length := by
  unfold csE rsE
  by_cases h : serE ts most = 0
  · rw [if_pos h, if_pos h]
    obtain ⟨a, b, c⟩ := runL_len most (serE_most h) ts ts.length (Nat.le_refl _)
    rw [List.take_length] at a b
    omega
  · rw [if_neg h, if_neg h]
    exact ⟨Nat.zero_le _, Nat.zero_le _⟩

def tmark : Td := ((-77), (0, ()))
def moved2 (t : Td) : Td := (t.1, (w64 (t.2.1 + 1), ()))

theorem hserial_all {todos : Sl} {most : Int} {h : Heap} {ts : List Td} (ha : Arr h kapiTodo todos ts) {c1 : Int → Heap → (Bool → Heap → Prop) → Prop} {c2 : Sl → Cl → Int → Heap → ((Sl × (Bool × Unit)) → Heap → Prop) → Prop} {c3 : Sl → Heap → (Sl → Heap → Prop) → Prop}
    (i1 : ∀ {a h Q}, hist_goodMost.M a h Q → c1 a h Q) (i2 : ∀ {a b c h Q}, hist_row_does.M a b c h Q → c2 a b c h Q) (i3 : ∀ {a h Q}, slices_Clone_int64_int64.M a h Q → c3 a h Q) {Q : (Sl × (Sl × (Int × Unit))) → Heap → Prop}
    (hQ : ∀ s r h', New h h' kapiCall s (csE ts most) → New h h' ki r (rsE ts most) → (∀ b, blkOf r b → ¬ blkOf s b) → Q (s, r, serE ts most, ()) h') : hist_Serial.M c1 c2 c3 todos most h Q := by
  refine hserial_spec ha i1 i2 i3 (fun e he hne => ?_) (fun hok s r h' a b c => ?_)
  · subst he
    have := hQ ⟨none, 0, 0⟩ ⟨none, 0, 0⟩ h
    unfold csE rsE at this
    rw [if_neg hne, if_neg hne] at this
    exact this (New.nil h _) (New.nil h _) (fun b q => by obtain ⟨a, e, _⟩ := q; cases e)
  · have := hQ s r h'
    unfold csE rsE at this
    rw [if_pos hok, if_pos hok, hok] at this
    exact this a b c
end Go.Mx
