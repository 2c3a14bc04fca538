/-
  ExploreFinals: the walks of what compares.
-/
import Derived.Test.YtipihecaaakagaaMxKw
set_option linter.unusedVariables false
set_option linter.unusedSimpArgs false
set_option linter.unusedSectionVars false
namespace Go.Mx

def sgnC (a b : Int) : Int := if a < b then -1 else if b < a then 1 else 0
theorem cmpI_spec {x y : Int} {h : Heap} {c : Int → Heap → (Bool → Heap → Prop) → Prop} (i : ∀ {x : Int} {h Q}, cmp_isNaN_int.M x h Q → c x h Q) {Q : Int → Heap → Prop} (hQ : Q (sgnC x y) h) : cmp_Compare_int.M c x y h Q := by
  refine i (i ?_)
  have e : ∀ z : Int, (!(decide (z = z))) = false := fun z => by simp
  unfold sgnC at hQ
  refine ⟨fun q => ?_, fun _ => ⟨fun q => ?_, fun _ => dcs (fun h1 => ?_) (fun h1 => dcs (fun h2 => ?_) (fun h2 => ?_))⟩⟩
  · exfalso; revert q; simp
  · exfalso; revert q; simp
  · have h1 : x < y := h1
    rwa [if_pos h1] at hQ
  · have h1 : ¬ x < y := h1
    have h2 : y < x := h2
    rwa [if_neg h1, if_pos h2] at hQ
  · have h1 : ¬ x < y := h1
    have h2 : ¬ y < x := h2
    rwa [if_neg h1, if_neg h2] at hQ
theorem cmpL_spec {x y : Int} {h : Heap} {c : Int → Heap → (Bool → Heap → Prop) → Prop} (i : ∀ {x : Int} {h Q}, cmp_isNaN_int64.M x h Q → c x h Q) {Q : Int → Heap → Prop} (hQ : Q (sgnC x y) h) : cmp_Compare_int64.M c x y h Q := by
  refine i (i ?_)
  unfold sgnC at hQ
  refine ⟨fun q => ?_, fun _ => ⟨fun q => ?_, fun _ => dcs (fun h1 => ?_) (fun h1 => dcs (fun h2 => ?_) (fun h2 => ?_))⟩⟩
  · exfalso; revert q; simp
  · exfalso; revert q; simp
  · have h1 : x < y := h1
    rwa [if_pos h1] at hQ
  · have h1 : ¬ x < y := h1
    have h2 : y < x := h2
    rwa [if_neg h1, if_pos h2] at hQ
  · have h1 : ¬ x < y := h1
    have h2 : ¬ y < x := h2
    rwa [if_neg h1, if_neg h2] at hQ
theorem lexC_drop {xs ys : List Int} (hl : xs.length = ys.length) {i : Nat} (h : xs.take i = ys.take i) : lexC xs ys = lexC (xs.drop i) (ys.drop i) := by
  induction i generalizing xs ys with
  | zero => rfl
  | succ i ih =>
    cases xs with
    | nil => cases ys with
      | nil => rfl
      | cons _ _ => cases hl
    | cons x xs => cases ys with
      | nil => cases hl
      | cons y ys =>
        rw [List.take_succ_cons, List.take_succ_cons] at h
        obtain ⟨rfl, h3⟩ := List.cons.inj h
        rw [List.drop_succ_cons, List.drop_succ_cons, ← ih (by simpa using hl) h3]
        show (if x < x then _ else if x < x then _ else lexC xs ys) = _
        rw [if_neg (Int.lt_irrefl x), if_neg (Int.lt_irrefl x)]
theorem compare_spec {a b : Sl} {h : Heap} {xs ys : List Int} (ha : Arr h ki a xs) (hb : Arr h ki b ys) (hn : xs.length ≤ 1000000) (hlen : xs.length = ys.length) {c : Int → Int → Heap → (Int → Heap → Prop) → Prop} (i : ∀ {x y : Int} {h : Heap} {Q : Int → Heap → Prop}, Q (sgnC x y) h → c x y h Q)
    {Q : Int → Heap → Prop} (hQ : Q (lexC xs ys) h) : slices_Compare_int64_int64.M c a b h Q := by
  have hal := ha.1
  have hbl := hb.1
  refine Loop.up xs.length (fun s => s.1) (fun i st k => k = h ∧ xs.take i = ys.take i) rfl ⟨rfl, rfl⟩ ?_
  rintro i' ⟨i2, u⟩ k go hi hc ⟨rfl, hI⟩ hgo
  dsimp only at hc; subst hc
  rw [lexC_drop hlen hI] at hQ
  refine dcs (fun e2 => ?_) (fun e2 => ?_)
  · have e2 : (i' : Int) < (a.len : Int) := e2
    have hia : i' < xs.length := by omega
    have hib : i' < ys.length := by omega
    rw [List.drop_eq_getElem_cons hia, List.drop_eq_getElem_cons hib] at hQ
    unfold lexC at hQ
    refine ⟨⟨Int.natCast_nonneg i', e2⟩, ha.at (Int.natCast_nonneg i') e2 rfl fun x hx => ?_⟩
    rw [Int.toNat_natCast, List.getElem?_eq_getElem hia] at hx
    obtain rfl := Option.some.inj hx
    refine dcs (fun z => absurd (show (b.len : Int) ≤ (i' : Int) from z) (by omega)) (fun _ => ⟨⟨Int.natCast_nonneg i', show (i' : Int) < (b.len : Int) by omega⟩, hb.at (Int.natCast_nonneg i') (by omega) rfl fun y hy => ?_⟩)
    rw [Int.toNat_natCast, List.getElem?_eq_getElem hib] at hy
    obtain rfl := Option.some.inj hy
    refine i ?_
    unfold sgnC
    by_cases z : xs[i'] < ys[i']
    · rw [if_pos z] at hQ ⊢
      exact dcs (fun _ => hQ) (fun q => absurd (show (-1 : Int) ≠ 0 by decide) q)
    · rw [if_neg z] at hQ ⊢
      by_cases z2 : ys[i'] < xs[i']
      · rw [if_pos z2] at hQ ⊢
        exact dcs (fun _ => hQ) (fun q => absurd (show (1 : Int) ≠ 0 by decide) q)
      · rw [if_neg z2] at hQ ⊢
        refine dcs (fun q => absurd rfl q) (fun _ => hgo hia _ _ (w64_up' (n := xs.length) hia (by omega)) ⟨rfl, ?_⟩)
        rw [take_succ' xs hia, take_succ' ys hib, hI, show xs[i'] = ys[i'] by omega]
  · have e2 : ¬ (i' : Int) < (a.len : Int) := e2
    rw [List.drop_of_length_le (by omega), List.drop_of_length_le (by omega)] at hQ
    exact dcs (fun z => absurd (show (a.len : Int) < (b.len : Int) from z) (by omega)) (fun _ => hQ)
theorem lesser_spec {a b : Sl} {h : Heap} {xs ys : List Int} (ha : Arr h ki a xs) (hb : Arr h ki b ys) (hn : xs.length ≤ 1000000) {c1 : Int → Int → Heap → (Int → Heap → Prop) → Prop} {c2 : Sl → Sl → Heap → (Int → Heap → Prop) → Prop}
    (i1 : ∀ {x y : Int} {h : Heap} {Q : Int → Heap → Prop}, Q (sgnC x y) h → c1 x y h Q) (i2 : ∀ {Q : Int → Heap → Prop}, xs.length = ys.length → Q (lexC xs ys) h → c2 a b h Q)
    {Q : Int → Heap → Prop} (hQ : Q (cmpC xs ys) h) : explore_lesser.M c1 c2 a b h Q := by
  have hal := ha.1
  have hbl := hb.1
  refine i1 ?_
  unfold sgnC
  unfold cmpC at hQ
  by_cases z : xs.length < ys.length
  · rw [if_pos z] at hQ
    rw [if_pos (by omega)]
    exact dcs (fun _ => hQ) (fun q => absurd (show (-1 : Int) ≠ 0 by decide) q)
  · rw [if_neg z] at hQ
    rw [if_neg (by omega)]
    by_cases z2 : ys.length < xs.length
    · rw [if_pos z2] at hQ
      rw [if_pos (by omega)]
      exact dcs (fun _ => hQ) (fun q => absurd (show (1 : Int) ≠ 0 by decide) q)
    · rw [if_neg z2] at hQ
      rw [if_neg (by omega)]
      exact dcs (fun q => absurd rfl q) (fun _ => i2 (by omega) hQ)
theorem mid_eq {i j : Nat} (hi : i + j ≤ 4000000) : w64 (Int.fdiv (IntKind.wrap .u64 (w64 ((i : Int) + (j : Int)))) (2 ^ (min (1 : Int).toNat (IntKind.bits .u64)))) = (((i + j) / 2 : Nat) : Int) := by
  have h1 : w64 ((i : Int) + (j : Int)) = ((i + j : Nat) : Int) := by rw [w64_of (by omega) (by omega)]; rfl
  have h2 : IntKind.wrap .u64 ((i + j : Nat) : Int) = ((i + j : Nat) : Int) := by
    show ((i + j : Nat) : Int) % 2 ^ 64 = _
    rw [Int.emod_eq_of_lt (by omega) (by omega)]
  rw [h1, h2]
  have h3 : (2 : Int) ^ (min (1 : Int).toNat (IntKind.bits .u64)) = 2 := by decide
  rw [h3, Int.fdiv_eq_ediv_of_nonneg _ (by decide), w64_of (by omega) (by omega)]
  omega
theorem bsearch_spec {h0 h : Heap} {o t : Sl} {els : List Sl} {l : List (List Int)} {q : List Int} (n : Nest h0 h ki o els l) (hs : Srt l) (ht : Arr h ki t q) (hl : l.length ≤ 2000000) {fv : Value} {cf : Value → Sl → Sl → Heap → (Int → Heap → Prop) → Prop}
    (i : ∀ {u : Sl} {xs : List Int} {Q : Int → Heap → Prop}, xs ∈ l → Arr h ki u xs → Q (cmpC xs q) h → cf fv u t h Q) {Q : (Int × (Bool × Unit)) → Heap → Prop}
    (hQ : ∀ m : Nat, m ≤ l.length → (∀ k xs, l[k]? = some xs → (k < m ↔ cmpC xs q < 0)) → Q ((m : Int), (decide (l[m]? = some q), ())) h) : slices_BinarySearchFunc_int64_int64_int64.M cf o t fv h Q := by
  have hol := n.out.len
  have hel := n.len
  refine ⟨fun st k => k = h ∧ ∃ a b : Nat, st.1 = (a : Int) ∧ st.2.1 = (b : Int) ∧ a ≤ b ∧ b ≤ l.length ∧ (∀ k xs, l[k]? = some xs → k < a → cmpC xs q < 0) ∧ ∀ k xs, l[k]? = some xs → b ≤ k → ¬ cmpC xs q < 0, fun st _ => (st.2.1 - st.1).toNat,
    ⟨rfl, 0, l.length, rfl, show (o.len : Int) = (l.length : Int) by omega, Nat.zero_le _, Nat.le_refl _, fun k xs _ hk => absurd hk (Nat.not_lt_zero _), fun k xs hk hb => by rw [List.getElem?_eq_none hb] at hk; cases hk⟩, ?_⟩
  rintro ⟨a', b', u⟩ k ⟨rfl, a, b, ha, hb, hab, hbl, hlo, hhi⟩
  dsimp only at ha hb; subst ha; subst hb
  have rd : ∀ {j : Nat} {K : Sl → Prop}, j < l.length → (∀ u xs, l[j]? = some xs → Arr k ki u xs → K u) → (0 ≤ (j : Int) ∧ (j : Int) < (o.len : Int)) ∧ deref o.a fun p => ld (.sl : Kd) k (p.add (((j : Int)).toNat * 1)) K := fun {j K} hj hK => by
    have hje : j < els.length := by omega
    refine ⟨⟨Int.natCast_nonneg j, by omega⟩, n.out.arr.at (Int.natCast_nonneg j) (by omega) rfl fun u hu => ?_⟩
    rw [Int.toNat_natCast] at hu
    exact hK u _ (List.getElem?_eq_getElem hj) (n.row j _ _ hu (List.getElem?_eq_getElem hj)).arr
  refine dcs (fun z => ?_) (fun z => ?_)
  · have z : (a : Int) < (b : Int) := z
    have hm := mid_eq (i := a) (j := b) (by omega)
    have hmb : (a + b) / 2 < b := by omega
    have hma : a ≤ (a + b) / 2 := by omega
    refine ⟨by decide, ?_⟩
    rw [hm]
    refine rd (by omega) fun u xs hx hu => i (List.mem_of_getElem? hx) hu (dcs (fun y => ?_) (fun y => ?_))
    · have y : cmpC xs q < 0 := y
      have w1 : w64 ((((a + b) / 2 : Nat) : Int) + 1) = (((a + b) / 2 + 1 : Nat) : Int) := w64_up' (n := b) hmb (by omega)
      refine ⟨⟨rfl, (a + b) / 2 + 1, b, w1, rfl, hmb, hbl, fun k' ys hk hlt => ?_, hhi⟩, ?_⟩
      · rcases Nat.lt_or_ge k' ((a + b) / 2) with c | c
        · have hk2 := (List.getElem?_eq_some_iff.1 hk)
          have hx2 := (List.getElem?_eq_some_iff.1 hx)
          have := (List.pairwise_iff_getElem.1 hs) k' ((a + b) / 2) hk2.1 hx2.1 c
          rw [hk2.2, hx2.2] at this
          exact cmpC_trans this y
        · have : k' = (a + b) / 2 := by omega
          subst this
          rw [hx] at hk; cases hk; exact y
      · show ((b : Int) - w64 ((((a + b) / 2 : Nat) : Int) + 1)).toNat < ((b : Int) - (a : Int)).toNat
        rw [w1]; omega
    · have y : ¬ cmpC xs q < 0 := y
      refine ⟨⟨rfl, a, (a + b) / 2, rfl, rfl, hma, by omega, hlo, fun k' ys hk hge hneg => ?_⟩, ?_⟩
      · rcases Nat.lt_or_ge ((a + b) / 2) k' with c | c
        · have hk2 := (List.getElem?_eq_some_iff.1 hk)
          have hx2 := (List.getElem?_eq_some_iff.1 hx)
          have := (List.pairwise_iff_getElem.1 hs) ((a + b) / 2) k' hx2.1 hk2.1 c
          rw [hk2.2, hx2.2] at this
          exact y (cmpC_trans this hneg)
        · have : k' = (a + b) / 2 := by omega
          subst this
          rw [hx] at hk; cases hk; exact y hneg
      · show ((((a + b) / 2 : Nat) : Int) - (a : Int)).toNat < ((b : Int) - (a : Int)).toNat
        omega
  · have z : ¬ (a : Int) < (b : Int) := z
    have hae : a = b := by omega
    subst hae
    have fin := hQ a hbl fun k' xs hk => ⟨fun c => hlo k' xs hk c, fun c => by
      rcases Nat.lt_or_ge k' a with y | y
      · exact y
      · exact absurd c (hhi k' xs hk y)⟩
    refine dcs (fun y => ?_) (fun y => ?_)
    · have y : (a : Int) < (o.len : Int) := y
      refine rd (by omega) fun u xs hx hu => i (List.mem_of_getElem? hx) hu ?_
      rw [hx] at fin
      have : decide (cmpC xs q = 0) = decide (some xs = some q) := by
        rw [decide_eq_decide, cmpC_zero]
        exact ⟨fun e => by rw [e], fun e => Option.some.inj e⟩
      rw [← this] at fin
      exact fin
    · have y : ¬ (a : Int) < (o.len : Int) := y
      rw [List.getElem?_eq_none (by omega)] at fin
      exact fin
end Go.Mx
