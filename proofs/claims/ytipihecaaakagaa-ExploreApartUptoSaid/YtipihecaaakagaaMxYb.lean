/-
  Chapter 22, outright, the plain laws: how many scripts there are; each is alike to just one of the least.
-/
import Derived.Test.YtipihecaaakagaaMxYa
set_option linter.unusedVariables false
set_option linter.unusedSimpArgs false
set_option linter.unusedSectionVars false
namespace Go.Mx

/-! ### multinomial numbers -/
def chF (n k : Nat) : Nat → Nat
  | 0 => 1
  | i + 1 => chF n k i * (n - k + (i + 1)) / (i + 1)
def chN (n k : Nat) : Nat := chF n k k
/-- As the law reckons it: how many there were, and the product. -/
def multS (l : List Nat) : Nat × Nat := l.foldl (fun p k => (p.1 + k, p.2 * chN (p.1 + k) k)) (0, 1)
def mult (l : List Nat) : Nat := (multS l).2
theorem multS_snoc (l : List Nat) (k : Nat) : multS (l ++ [k]) = ((multS l).1 + k, (multS l).2 * chN ((multS l).1 + k) k) := by unfold multS; rw [List.foldl_append]; rfl
theorem multS_sum (l : List Nat) : (multS l).1 = l.sum := by
  induction l using rev_ind with
  | nil => rfl
  | append_singleton l k ih => rw [multS_snoc, List.sum_append, ih]; simp
theorem chF_small : ∀ n < 8, ∀ k < n + 1, ∀ i < k + 1, chF n k i ≤ 35 ∧ chF n k i * (n - k + (i + 1)) ≤ 1000 := by decide
theorem multS_small : ∀ {l : List Nat}, l.sum ≤ 7 → (multS l).2 ≤ 35 ^ l.length := fun {l} => by
  induction l using rev_ind with
  | nil => intro _; exact Nat.le_refl _
  | append_singleton l k ih =>
    intro h
    rw [List.sum_append] at h
    have h : l.sum + k ≤ 7 := by simpa using h
    rw [multS_snoc, List.length_append, multS_sum]
    have h1 := ih (by omega)
    have h2 := (chF_small (l.sum + k) (by omega) k (by omega) k (by omega)).1
    exact Nat.mul_le_mul h1 h2

/-- One fewer of w. -/
def decL (rs : List Nat) (w : Nat) : List Nat := rs.set w ((rs[w]?).getD 0 - 1)
def recS (rs : List Nat) : Nat := ((List.range rs.length).map fun w => if 0 < (rs[w]?).getD 0 then mult (decL rs w) else 0).sum
theorem mult4 : ∀ a < 8, ∀ b < 8 - a, ∀ c < 8 - a - b, ∀ d < 8 - a - b - c, 0 < a + b + c + d → mult [a, b, c, d] = recS [a, b, c, d] := by decide
theorem mult3 : ∀ a < 8, ∀ b < 8 - a, ∀ c < 8 - a - b, 0 < a + b + c → mult [a, b, c] = recS [a, b, c] := by decide
theorem mult2 : ∀ a < 8, ∀ b < 8 - a, 0 < a + b → mult [a, b] = recS [a, b] := by decide
theorem mult1 : ∀ a < 8, 0 < a → mult [a] = recS [a] := by decide
theorem mult_rec {rs : List Nat} (h4 : rs.length ≤ 4) (h7 : rs.sum ≤ 7) (hp : 0 < rs.sum) : mult rs = recS rs := by
  match rs, h4, h7, hp with
  | [], _, _, hp => exact absurd hp (by decide)
  | [a], _, h7, hp => simp at h7 hp; exact mult1 a (by omega) (by omega)
  | [a, b], _, h7, hp => simp at h7 hp; exact mult2 a (by omega) b (by omega) (by omega)
  | [a, b, c], _, h7, hp => simp at h7 hp; exact mult3 a (by omega) b (by omega) c (by omega) (by omega)
  | [a, b, c, d], _, h7, hp => simp at h7 hp; exact mult4 a (by omega) b (by omega) c (by omega) d (by omega) (by omega)
  | _ :: _ :: _ :: _ :: _ :: _, h4, _, _ => simp at h4
theorem mult_zero {rs : List Nat} (h4 : rs.length ≤ 4) (hz : rs.sum = 0) : mult rs = 1 := by
  match rs, h4, hz with
  | [], _, _ => rfl
  | [a], _, hz => simp at hz; subst hz; rfl
  | [a, b], _, hz => simp at hz; obtain ⟨rfl, rfl⟩ := hz; rfl
  | [a, b, c], _, hz => simp at hz; obtain ⟨rfl, rfl, rfl⟩ := hz; rfl
  | [a, b, c, d], _, hz => simp at hz; obtain ⟨rfl, rfl, rfl, rfl⟩ := hz; rfl
  | _ :: _ :: _ :: _ :: _ :: _, h4, _ => simp at h4

/-- What is left of each. -/
def leftR (lens : List Nat) (u : List Int) : List Nat := (List.range lens.length).map fun w => (lens[w]?).getD 0 - cnt u w
theorem leftR_at {lens : List Nat} {u : List Int} {w : Nat} (h : w < lens.length) : ((leftR lens u)[w]?).getD 0 = (lens[w]?).getD 0 - cnt u w := by
  unfold leftR
  rw [List.getElem?_map, List.getElem?_range h]; rfl
theorem leftR_len (lens : List Nat) (u : List Int) : (leftR lens u).length = lens.length := by unfold leftR; simp
theorem leftR_snoc {lens : List Nat} {u : List Int} {w : Nat} (h : w < lens.length) (hc : cnt u w < (lens[w]?).getD 0) : leftR lens (u ++ [(w : Int)]) = decL (leftR lens u) w := by
  unfold decL
  rw [leftR_at h]
  apply List.ext_getElem
  · rw [List.length_set, leftR_len, leftR_len]
  · intro i h1 h2
    rw [List.getElem_set]
    unfold leftR
    simp only [List.getElem_map, List.getElem_range, cnt_snoc]
    by_cases c : w = i
    · subst c; rw [if_pos rfl, if_pos rfl]; omega
    · rw [if_neg c, if_neg (fun q => c q.symm)]; omega
theorem decL_sum {rs : List Nat} {w : Nat} (h : 0 < (rs[w]?).getD 0) : (decL rs w).sum + 1 = rs.sum := by
  unfold decL
  have hw : w < rs.length := by
    rcases Nat.lt_or_ge w rs.length with c | c
    · exact c
    · rw [List.getElem?_eq_none c] at h; exact absurd h (by decide)
  rw [List.getElem?_eq_getElem hw] at h ⊢
  have h : 0 < rs[w] := h
  have e1 : rs.sum = (rs.take w).sum + (rs[w] + (rs.drop (w + 1)).sum) := by
    conv => lhs; rw [← List.take_append_drop w rs, List.sum_append, List.drop_eq_getElem_cons hw, List.sum_cons]
  rw [List.set_eq_take_append_cons_drop, if_pos hw, List.sum_append, List.sum_cons, e1]
  show (rs.take w).sum + ((rs[w] - 1) + (rs.drop (w + 1)).sum) + 1 = _
  omega
theorem allW_mult {lens : List Nat} (h4 : lens.length ≤ 4) : ∀ (n : Nat) (u : List Int), (leftR lens u).sum = n → n ≤ 7 → (allW lens n u).length = mult (leftR lens u)
  | 0, u, h, _ => (mult_zero (by rw [leftR_len]; exact h4) h).symm
  | n + 1, u, h, h7 => by
    rw [allW_succ, List.length_flatMap, mult_rec (by rw [leftR_len]; exact h4) (by omega) (by omega)]
    unfold recS
    rw [leftR_len]
    congr 1
    refine List.map_congr_left fun w hw => ?_
    have hw := List.mem_range.1 hw
    rw [leftR_at hw]
    unfold allC
    by_cases c : cnt u w < (lens[w]?).getD 0
    · rw [if_pos c, if_pos (by omega), ← leftR_snoc hw c]
      have hs := decL_sum (rs := leftR lens u) (w := w) (by rw [leftR_at hw]; omega)
      rw [← leftR_snoc hw c] at hs
      exact allW_mult h4 n _ (by omega) (by omega)
    · rw [if_neg c, if_neg (by omega)]; rfl
theorem allS_mult {xss : List (List Ac)} (h4 : xss.length ≤ 4) (h7 : (xss.map List.length).sum ≤ 7) : (allS xss).length = mult (xss.map List.length) := by
  have e : leftR (xss.map List.length) [] = xss.map List.length := by
    unfold leftR
    apply List.ext_getElem
    · simp
    · intro i h1 h2
      simp only [List.getElem_map, List.getElem_range]
      have hi : i < xss.length := by simpa using h2
      rw [List.getElem?_map, List.getElem?_eq_getElem hi]
      show xss[i].length - 0 = _
      omega
  unfold allS
  rw [allW_mult (by rw [List.length_map]; exact h4) _ [] (by rw [e]) h7, e]

/-! ### each script is alike to just one of the least -/
section
variable {sz len : Int} {xss : List (List Ac)}
theorem expS_script {q : List Int} (h : q ∈ expS sz len xss) : ScriptP (xss.map List.length) q := allS_mem.1 (List.mem_filter.1 h).1
theorem script_nodup {q : List Int} (h : ScriptP (xss.map List.length) q) : (evL q).Nodup := by
  have hin := h.1
  exact evL_nodup fun p hp => (hin p hp).1
theorem least_unique {q q' : List Int} (h : q ∈ expS sz len xss) (h' : q' ∈ expS sz len xss) (ha : Alk (bdE sz len xss) (evL q) (evL q')) : q = q' := by
  have hS := expS_script h
  have hS' := expS_script h'
  have hin := hS.1
  have hin' := hS'.1
  rw [List.length_map] at hin hin'
  have hp : ∀ e ∈ evL q, 0 ≤ e.1 := fun e he => ((evL_mem (fun p hp => (hin p hp).1) e).1 he).1
  have hp' : ∀ e ∈ evL q', 0 ≤ e.1 := fun e he => ((evL_mem (fun p hp => (hin' p hp).1) e).1 he).1
  have n1 := (isLst_nb hin).1 (List.mem_filter.1 h).2
  have n2 := (isLst_nb hin').1 (List.mem_filter.1 h').2
  have : evL q = evL q' := nbS_one (bdE sz len xss) whoZ (fun a b hab => bdE_fst (whoZ_inj hab)) (bdE_sym sz len xss) (script_nodup hS) ha ((nbS_congr (fun a ha b hb => whoZ_lt (hp a ha) (hp b hb))).1 n1) ((nbS_congr (fun a ha b hb => whoZ_lt (hp' a ha) (hp' b hb))).1 n2)
  rw [← evL_fst q, this, evL_fst]
theorem filter_one {α : Type} {l : List α} (nd : l.Nodup) {f : α → Bool} {x : α} (hx : x ∈ l) (hf : f x = true) (hu : ∀ y ∈ l, f y = true → y = x) : (l.filter f).length = 1 := by
  have : l.filter f = [x] := by
    have h1 : (l.filter f).Perm [x] := (List.perm_ext_iff_of_nodup (nd.filter _) (by simp)).2 fun y => by
      rw [List.mem_filter, List.mem_singleton]
      exact ⟨fun h => hu y h.1 h.2, fun h => by subst h; exact ⟨hx, hf⟩⟩
    exact List.perm_singleton.1 h1
  rw [this]; rfl
theorem found_one {p : List Int} (hp : ScriptP (xss.map List.length) p) : ((expS sz len xss).filter fun q => sameB sz len xss q p).length = 1 := by
  obtain ⟨q, hq, ha⟩ := least_ex (sz := sz) (len := len) hp
  have hS := expS_script hq
  have ha' := Alk.symm (bdE sz len xss) (bdE_sym sz len xss) (script_nodup hp) ha
  refine filter_one ((allS_nodup xss).filter _) hq ((sameB_alk hS hp).2 ha') fun y hy hyp => ?_
  have hSy := expS_script hy
  have h1 := (sameB_alk hSy hp).1 hyp
  exact least_unique hy hq (Alk.trans (bdE sz len xss) (script_nodup hSy) h1 ha)
theorem count_swap {α β : Type} (R : α → β → Bool) (L : List α) (M : List β) : (L.map fun q => (M.filter (R q)).length).sum = (M.map fun p => (L.filter fun q => R q p).length).sum := by
  induction L with
  | nil => induction M with
    | nil => rfl
    | cons p M ih => rw [List.map_cons, List.sum_cons, ← ih]; rfl
  | cons q L ih =>
    rw [List.map_cons, List.sum_cons, ih]
    clear ih
    induction M with
    | nil => rfl
    | cons p M ih =>
      rw [List.map_cons, List.sum_cons, List.map_cons, List.sum_cons, ← ih, List.filter_cons, List.filter_cons]
      cases R q p <;> simp <;> omega
theorem kin_sum : ((expS sz len xss).map fun q => ((allS xss).filter (sameB sz len xss q)).length).sum = (allS xss).length := by
  rw [count_swap]
  have : ∀ p ∈ allS xss, ((expS sz len xss).filter fun q => sameB sz len xss q p).length = 1 := fun p hp => found_one (allS_mem.1 hp)
  rw [List.map_congr_left this, List.map_const', List.sum_replicate_nat, Nat.mul_one]
theorem kin_pos {q : List Int} (h : ScriptP (xss.map List.length) q) : 1 ≤ ((allS xss).filter (sameB sz len xss q)).length := by
  have : q ∈ (allS xss).filter (sameB sz len xss q) := List.mem_filter.2 ⟨allS_mem.2 h, (sameB_alk h h).2 (Alk.refl (bdE sz len xss) _)⟩
  exact List.length_pos_of_mem this
end
end Go.Mx
