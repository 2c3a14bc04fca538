/-
  Orders of a history: the states that can be come to.
-/
import Derived.Test.YtanfmmcpjifgiaaMxLd
set_option linter.unusedVariables false
set_option linter.unusedSimpArgs false
namespace Go.Mx

/-- The numbers of an actor's calls, among the first n. -/
def isBy (cs : List Cl) (w i : Nat) : Bool := match cs[i]? with | some c => decide (cWho c = (w : Int)) | none => false
def byN (cs : List Cl) (n w : Nat) : List Nat := (List.range n).filter (isBy cs w)
def byL (cs : List Cl) (w : Nat) : List Nat := byN cs cs.length w
theorem byN_succ (cs : List Cl) (n w : Nat) : byN cs (n + 1) w = byN cs n w ++ if isBy cs w n then [n] else [] := by
  unfold byN
  rw [List.range_succ, List.filter_append]
  congr 1
  cases e : isBy cs w n <;> simp [List.filter, e]
theorem isBy_iff {cs : List Cl} {w i : Nat} : isBy cs w i = true ↔ ∃ c, cs[i]? = some c ∧ cWho c = (w : Int) := by
  unfold isBy
  cases e : cs[i]? with
  | none => simp
  | some c => simp
theorem mem_byL {cs : List Cl} {w i : Nat} : i ∈ byL cs w ↔ ∃ c, cs[i]? = some c ∧ cWho c = (w : Int) := by
  unfold byL byN
  rw [List.mem_filter, isBy_iff, List.mem_range]
  constructor
  · exact fun h => h.2
  · rintro ⟨c, h1, h2⟩
    exact ⟨(List.getElem?_eq_some_iff.1 h1).1, c, h1, h2⟩
theorem byL_at {cs : List Cl} {w n i : Nat} (h : (byL cs w)[n]? = some i) : ∃ c, cs[i]? = some c ∧ cWho c = (w : Int) := mem_byL.1 (List.mem_of_getElem? h)
theorem byL_sorted (cs : List Cl) (w : Nat) : List.Pairwise (· < ·) (byL cs w) := List.Pairwise.filter _ List.pairwise_lt_range
theorem byL_lt {cs : List Cl} {w a b i j : Nat} (ha : (byL cs w)[a]? = some i) (hb : (byL cs w)[b]? = some j) (h : a < b) : i < j := by
  obtain ⟨h1, rfl⟩ := List.getElem?_eq_some_iff.1 ha
  obtain ⟨h2, rfl⟩ := List.getElem?_eq_some_iff.1 hb
  exact List.pairwise_iff_getElem.1 (byL_sorted cs w) a b h1 h2 h
theorem byL_inj {cs : List Cl} {w w' a b i : Nat} (ha : (byL cs w)[a]? = some i) (hb : (byL cs w')[b]? = some i) : w = w' ∧ a = b := by
  obtain ⟨c, c1, c2⟩ := byL_at ha
  obtain ⟨d, d1, d2⟩ := byL_at hb
  rw [c1] at d1; cases d1
  obtain rfl : w = w' := by omega
  refine ⟨rfl, ?_⟩
  rcases Nat.lt_trichotomy a b with h | h | h
  · have := byL_lt ha hb h; omega
  · exact h
  · have := byL_lt hb ha h; omega
theorem byL_len (cs : List Cl) (w : Nat) : (byL cs w).length ≤ cs.length := by
  unfold byL byN
  have := List.length_filter_le (isBy cs w) (List.range cs.length)
  rwa [List.length_range] at this

/-- Two calls of one actor: the earlier one has ended ahead of the later one. -/
theorem hist_ahead {cs : List Cl} (hH : HistN cs cs.length) {i j : Nat} {a b : Cl} (hij : i < j) (ha : cs[i]? = some a) (hb : cs[j]? = some b) (hw : cWho a = cWho b) : cCode a ≠ 0 ∧ Ahead a b ∧ cEn a < cBg b := by
  have hj := (List.getElem?_eq_some_iff.1 hb).1
  have hi := (List.getElem?_eq_some_iff.1 ha).1
  have h1 := (hH j b hj hb).2 i a hij ha
  obtain ⟨s1, s2, s3, s4, s5⟩ := sound_facts (hH i a hi ha).1
  unfold Bad2 at h1
  have e1 : cEn a ≠ -1 := fun e => h1 ⟨hw, .inl e⟩
  have e2 : ¬ cBg b ≤ cEn a := fun e => h1 ⟨hw, .inr e⟩
  have e3 := s2 e1
  exact ⟨fun e => e1 (s1.2 e), ⟨by omega, by omega⟩, by omega⟩

/-! ### states -/
def Wait (cs : List Cl) (t : Nat → Nat) (c : Cl) : Prop := ∃ w n i x, w < 4 ∧ t w ≤ n ∧ (byL cs w)[n]? = some i ∧ cs[i]? = some x ∧ cCode x ≠ 0 ∧ cEn x < cBg c
def DoneS (cs : List Cl) (t : Nat → Nat) : Prop := ∀ w n i x, w < 4 → t w ≤ n → (byL cs w)[n]? = some i → cs[i]? = some x → cCode x = 0
def bump (t : Nat → Nat) (w : Nat) : Nat → Nat := fun v => if v = w then t v + 1 else t v
theorem bump_self (t : Nat → Nat) (w : Nat) : bump t w w = t w + 1 := by simp [bump]
theorem bump_ne (t : Nat → Nat) {w v : Nat} (h : v ≠ w) : bump t w v = t v := by simp [bump, h]
/-- A call may come next. -/
def Sx (cs : List Cl) (most : Int) (t : Nat → Nat) (xs : List Int) (w i : Nat) (c : Cl) : Prop := w < 4 ∧ (byL cs w)[t w]? = some i ∧ cs[i]? = some c ∧ (doL xs c most).2 = true ∧ ¬ Wait cs t c
inductive Way (cs : List Cl) (most : Int) : (Nat → Nat) → List Int → List Nat → (Nat → Nat) → List Int → Prop
  | nil (t xs) : Way cs most t xs [] t xs
  | cons {t xs w i c is t' xs'} : Sx cs most t xs w i c → Way cs most (bump t w) (doL xs c most).1 is t' xs' → Way cs most t xs (i :: is) t' xs'
theorem Way.inv {cs : List Cl} {most : Int} {P : List Nat → (Nat → Nat) → List Int → Prop} (step : ∀ pre t xs w i c, P pre t xs → Sx cs most t xs w i c → P (pre ++ [i]) (bump t w) (doL xs c most).1) {t xs is t' xs'} (h : Way cs most t xs is t' xs') :
    ∀ pre, P pre t xs → P (pre ++ is) t' xs' := by
  induction h with
  | nil t xs => intro pre hp; rwa [List.append_nil]
  | cons hs _ ih =>
    intro pre hp
    have := ih _ (step _ _ _ _ _ _ hp hs)
    rwa [List.append_assoc] at this
theorem Way.trans {cs most t xs is t' xs' js t'' xs''} (a : Way cs most t xs is t' xs') (b : Way cs most t' xs' js t'' xs'') : Way cs most t xs (is ++ js) t'' xs'' := by
  induction a with
  | nil => exact b
  | cons hs _ ih => exact .cons hs (ih b)
theorem Way.snoc {cs most t xs is t' xs' w i c} (a : Way cs most t xs is t' xs') (s : Sx cs most t' xs' w i c) : Way cs most t xs (is ++ [i]) (bump t' w) (doL xs' c most).1 := a.trans (.cons s (.nil _ _))
def z4 : Nat → Nat := fun _ => 0
def Rch (cs : List Cl) (most : Int) (t : Nat → Nat) (xs : List Int) : Prop := ∃ is, Way cs most z4 [] is t xs
def LiveS (cs : List Cl) (most : Int) (t : Nat → Nat) (xs : List Int) : Prop := ∃ is t' xs', Way cs most t xs is t' xs' ∧ DoneS cs t'
def Dead (cs : List Cl) (most : Int) (t : Nat → Nat) : Prop := ∀ xs, Rch cs most t xs → ¬ LiveS cs most t xs

/-! ### what the deque holds hangs on the state alone -/
def effO (st : List Int) (c : Cl) : List Int :=
  if (c.2.1 : Int) = 0 then (if cCode c = 3 then st else st ++ [c.2.2.1]) else (if cCode c = 5 then st else st.take (st.length - 1))
def takes1 (c : Cl) : Nat := if cCode c = 0 ∨ cCode c = 4 then 1 else 0
def callsOf (cs : List Cl) (l : List Nat) : List Cl := l.filterMap fun i => cs[i]?
def ownS (cs : List Cl) (n : Nat) : List Int := (callsOf cs ((byL cs 0).take n)).foldl effO []
def tkN (cs : List Cl) (w n : Nat) : Nat := ((callsOf cs ((byL cs w).take n)).map takes1).sum
theorem take_some {α : Type} {l : List α} {n : Nat} {x : α} (h : l[n]? = some x) : l.take (n + 1) = l.take n ++ [x] := by
  obtain ⟨h1, rfl⟩ := List.getElem?_eq_some_iff.1 h
  exact take_succ' l h1
theorem callsOf_succ {cs : List Cl} {w n i : Nat} {c : Cl} (h1 : (byL cs w)[n]? = some i) (h2 : cs[i]? = some c) : callsOf cs ((byL cs w).take (n + 1)) = callsOf cs ((byL cs w).take n) ++ [c] := by
  unfold callsOf
  rw [take_some h1, List.filterMap_append]
  simp [h2]
def rowS (cs : List Cl) (t : Nat → Nat) : List Int := (ownS cs (t 0)).drop (tkN cs 1 (t 1) + tkN cs 2 (t 2) + tkN cs 3 (t 3))
def rowOk (cs : List Cl) (t : Nat → Nat) (xs : List Int) : Prop := xs = rowS cs t ∧ tkN cs 1 (t 1) + tkN cs 2 (t 2) + tkN cs 3 (t 3) ≤ (ownS cs (t 0)).length
theorem rowOk_step {cs : List Cl} (hH : HistN cs cs.length) {most : Int} {t : Nat → Nat} {xs : List Int} {w i : Nat} {c : Cl} (h : rowOk cs t xs) (s : Sx cs most t xs w i c) : rowOk cs (bump t w) (doL xs c most).1 := by
  obtain ⟨s1, s2, s3, s4, s5⟩ := s
  obtain ⟨h1, h2⟩ := h
  obtain ⟨c', c1, c2⟩ := byL_at s2
  rw [s3] at c1; cases c1
  have hs := (hH i c (List.getElem?_eq_some_iff.1 s3).1 s3).1
  unfold rowS at h1
  obtain ⟨who, kind, arg, bg, en, code, v, u⟩ := c
  change Int at who kind arg bg en code v
  have hs : SoundI who kind bg en code := hs
  have c2 : who = (w : Int) := c2
  unfold SoundI May at hs
  have hcs := callsOf_succ s2 s3
  by_cases hw : w = 0
  · subst hw
    have b0 : bump t 0 0 = t 0 + 1 := bump_self t 0
    have b1 : bump t 0 1 = t 1 := bump_ne t (by decide)
    have b2 : bump t 0 2 = t 2 := bump_ne t (by decide)
    have b3 : bump t 0 3 = t 3 := bump_ne t (by decide)
    have hO : ownS cs (t 0 + 1) = effO (ownS cs (t 0)) (who, kind, arg, bg, en, code, v, u) := by
      unfold ownS
      rw [hcs, List.foldl_append]; rfl
    unfold rowOk rowS
    rw [b0, b1, b2, b3, hO]
    generalize hk : tkN cs 1 (t 1) + tkN cs 2 (t 2) + tkN cs 3 (t 3) = k at h1 h2 ⊢
    generalize ownS cs (t 0) = S at h1 h2 ⊢
    subst h1
    unfold effO cCode
    unfold doL at s4 ⊢
    dsimp only [Den] at s4 ⊢
    have hkc : (kind = 0 ∧ (code = 0 ∨ code = 2 ∨ code = 3)) ∨ (kind = 1 ∧ (code = 0 ∨ code = 4 ∨ code = 5)) := by omega
    have push : (most ≤ ((S.drop k).length : Int) → False) → rowS cs t = rowS cs t → S.drop k ++ [arg] = (S ++ [arg]).drop k ∧ k ≤ (S ++ [arg]).length := fun _ _ => ⟨(List.drop_append_of_le_length h2).symm, by rw [List.length_append]; omega⟩
    have pop : (S.drop k).length ≠ 0 → (S.drop k).take ((S.drop k).length - 1) = (S.take (S.length - 1)).drop k ∧ k ≤ (S.take (S.length - 1)).length := fun hne => by
      rw [List.length_drop] at hne ⊢
      refine ⟨?_, by rw [List.length_take]; omega⟩
      rw [List.drop_take]
      congr 1; omega
    rcases hkc with ⟨rfl, rfl | rfl | rfl⟩ | ⟨rfl, rfl | rfl | rfl⟩
    · by_cases q : most ≤ ((S.drop k).length : Int)
      · rw [if_neg (by decide), if_neg (by decide), if_neg (by decide), if_pos rfl, if_pos q] at s4
        cases s4
      · simp [q]
        have := push q rfl
        simp at this
        rw [List.length_drop] at q
        rw [if_neg (by omega)]
        exact ⟨this.1, by omega⟩
    · by_cases q : most ≤ ((S.drop k).length : Int)
      · rw [if_neg (by decide), if_neg (by decide), if_neg (by decide), if_pos rfl, if_pos q] at s4
        cases s4
      · simp [q]
        have := push q rfl
        simp at this
        rw [List.length_drop] at q
        rw [if_neg (by omega)]
        exact ⟨this.1, by omega⟩
    · simp; exact h2
    · by_cases q : (S.drop k).length = 0
      · rw [if_neg (by decide), if_neg (by decide), if_neg (by decide), if_neg (by decide), if_pos q] at s4
        cases s4
      · have := pop q
        rw [if_neg (by decide), if_neg (by decide), if_neg (by decide), if_neg (by decide), if_neg q, if_pos rfl, if_neg (by decide), if_neg (by decide)]
        exact this
    · by_cases q : (S.drop k).length = 0
      · rw [if_neg (by decide), if_neg (by decide), if_neg (by decide), if_neg (by decide), if_pos q] at s4
        cases s4
      · have := pop q
        rw [if_neg (by decide), if_neg (by decide), if_neg (by decide), if_neg (by decide), if_neg q, if_pos rfl, if_neg (by decide), if_neg (by decide)]
        exact this
    · simp; exact h2
  · have b0 : bump t w 0 = t 0 := bump_ne t (fun e => hw e.symm)
    have hk2 : kind = 2 ∧ (code = 0 ∨ code = 4 ∨ code = 5 ∨ code = 6) := by omega
    have hT : tkN cs w (t w + 1) = tkN cs w (t w) + takes1 (who, kind, arg, bg, en, code, v, u) := by
      unfold tkN
      rw [hcs, List.map_append, List.sum_append]; simp
    have hK : tkN cs 1 (bump t w 1) + tkN cs 2 (bump t w 2) + tkN cs 3 (bump t w 3) = tkN cs 1 (t 1) + tkN cs 2 (t 2) + tkN cs 3 (t 3) + takes1 (who, kind, arg, bg, en, code, v, u) := by
      have hw3 : w = 1 ∨ w = 2 ∨ w = 3 := by omega
      rcases hw3 with rfl | rfl | rfl
      · rw [bump_self, bump_ne t (by decide : (2 : Nat) ≠ 1), bump_ne t (by decide : (3 : Nat) ≠ 1), hT]; omega
      · rw [bump_self, bump_ne t (by decide : (1 : Nat) ≠ 2), bump_ne t (by decide : (3 : Nat) ≠ 2), hT]; omega
      · rw [bump_self, bump_ne t (by decide : (1 : Nat) ≠ 3), bump_ne t (by decide : (2 : Nat) ≠ 3), hT]; omega
    unfold rowOk rowS
    rw [b0, hK]
    generalize tkN cs 1 (t 1) + tkN cs 2 (t 2) + tkN cs 3 (t 3) = k at h1 h2 ⊢
    generalize ownS cs (t 0) = S at h1 h2 ⊢
    subst h1
    unfold takes1 cCode
    unfold doL at s4 ⊢
    dsimp only [Den] at s4 ⊢
    obtain ⟨rfl, hc⟩ := hk2
    have tk : (S.drop k).length ≠ 0 → (S.drop k).drop 1 = S.drop (k + 1) ∧ k + 1 ≤ S.length := fun hne => by
      rw [List.length_drop] at hne
      exact ⟨by rw [List.drop_drop], by omega⟩
    rcases hc with rfl | rfl | rfl | rfl
    · by_cases q : (S.drop k).length = 0
      · rw [if_neg (by decide), if_neg (by decide), if_neg (by decide), if_neg (by decide), if_pos q] at s4
        cases s4
      · rw [if_neg (by decide), if_neg (by decide), if_neg (by decide), if_neg (by decide), if_neg q, if_neg (by decide), if_pos (by decide)]
        exact tk q
    · by_cases q : (S.drop k).length = 0
      · rw [if_neg (by decide), if_neg (by decide), if_neg (by decide), if_neg (by decide), if_pos q] at s4
        cases s4
      · rw [if_neg (by decide), if_neg (by decide), if_neg (by decide), if_neg (by decide), if_neg q, if_neg (by decide), if_pos (by decide)]
        exact tk q
    · simp; exact h2
    · simp; exact h2
theorem Rch.row {cs : List Cl} (hH : HistN cs cs.length) {most : Int} {t : Nat → Nat} {xs : List Int} (h : Rch cs most t xs) : xs = rowS cs t := by
  obtain ⟨is, hw⟩ := h
  have := hw.inv (P := fun _ t xs => rowOk cs t xs) (fun pre t xs w i c hp hs => rowOk_step hH hp hs) [] ⟨by simp [rowS, ownS, tkN, z4, callsOf], by simp [ownS, tkN, z4, callsOf]⟩
  exact this.1
theorem Rch.one {cs : List Cl} (hH : HistN cs cs.length) {most : Int} {t : Nat → Nat} {xs ys : List Int} (a : Rch cs most t xs) (b : Rch cs most t ys) : xs = ys := by rw [a.row hH, b.row hH]

end Go.Mx
