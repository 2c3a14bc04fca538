/-
  Orders of a history: the states that can be come to.
  Orders of a history: ways to the end are orders; the reference's questions.
  hist.Order: the search.
  hist.Order: the search goes down.
  hist.Order, whole.
-/
import Derived.Test.YtjkecefbbijajabMxLa
set_option linter.unusedVariables false
set_option linter.unusedSimpArgs false
namespace Go.Mx

/-- The numbers of an actor's calls, among the first n. -/
def isBy (cs : List Cl) (w i : Nat) : Bool := match cs[i]? with | some c => decide (cWho c = (w : Int)) | none => false
def byN (cs : List Cl) (n w : Nat) : List Nat := (List.range n).filter (isBy cs w)
def byL (cs : List Cl) (w : Nat) : List Nat := byN cs cs.length w
theorem byN_succ (cs : List Cl) (n w : Nat) : byN cs (n + 1) w = byN cs n w ++ if isBy cs w n then [n] else [] := by
  unfold byN
  rw [List.range_succ, List.filter_append]
  congr 1
  cases e : isBy cs w n <;> simp [List.filter, e]
theorem isBy_iff {cs : List Cl} {w i : Nat} : isBy cs w i = true ↔ ∃ c, cs[i]? = some c ∧ cWho c = (w : Int) := by
  unfold isBy
  cases e : cs[i]? with
  | none => simp
  | some c => simp
theorem mem_byL {cs : List Cl} {w i : Nat} : i ∈ byL cs w ↔ ∃ c, cs[i]? = some c ∧ cWho c = (w : Int) := by
  unfold byL byN
  rw [List.mem_filter, isBy_iff, List.mem_range]
  constructor
  · exact fun h => h.2
  · rintro ⟨c, h1, h2⟩
    exact ⟨(List.getElem?_eq_some_iff.1 h1).1, c, h1, h2⟩
theorem byL_at {cs : List Cl} {w n i : Nat} (h : (byL cs w)[n]? = some i) : ∃ c, cs[i]? = some c ∧ cWho c = (w : Int) := mem_byL.1 (List.mem_of_getElem? h)
theorem byL_sorted (cs : List Cl) (w : Nat) : List.Pairwise (· < ·) (byL cs w) := List.Pairwise.filter _ List.pairwise_lt_range
theorem byL_lt {cs : List Cl} {w a b i j : Nat} (ha : (byL cs w)[a]? = some i) (hb : (byL cs w)[b]? = some j) (h : a < b) : i < j := by
  obtain ⟨h1, rfl⟩ := List.getElem?_eq_some_iff.1 ha
  obtain ⟨h2, rfl⟩ := List.getElem?_eq_some_iff.1 hb
  exact List.pairwise_iff_getElem.1 (byL_sorted cs w) a b h1 h2 h
theorem byL_inj {cs : List Cl} {w w' a b i : Nat} (ha : (byL cs w)[a]? = some i) (hb : (byL cs w')[b]? = some i) : w = w' ∧ a = b := by
  obtain ⟨c, c1, c2⟩ := byL_at ha
  obtain ⟨d, d1, d2⟩ := byL_at hb
  rw [c1] at d1; cases d1
  obtain rfl : w = w' := by omega
  refine ⟨rfl, ?_⟩
  rcases Nat.lt_trichotomy a b with h | h | h
  · have := byL_lt ha hb h; omega
  · exact h
  · have := byL_lt hb ha h; omega
theorem byL_len (cs : List Cl) (w : Nat) : (byL cs w).length ≤ cs.length := by
  unfold byL byN
  have := List.length_filter_le (isBy cs w) (List.range cs.length)
  rwa [List.length_range] at this

/-- Two calls of one actor: the earlier one has ended ahead of the later one. -/
theorem hist_ahead {cs : List Cl} (hH : HistN cs cs.length) {i j : Nat} {a b : Cl} (hij : i < j) (ha : cs[i]? = some a) (hb : cs[j]? = some b) (hw : cWho a = cWho b) : cCode a ≠ 0 ∧ Ahead a b ∧ cEn a < cBg b := by
  have hj := (List.getElem?_eq_some_iff.1 hb).1
  have hi := (List.getElem?_eq_some_iff.1 ha).1
  have h1 := (hH j b hj hb).2 i a hij ha
  obtain ⟨s1, s2, s3, s4, s5⟩ := sound_facts (hH i a hi ha).1
  unfold Bad2 at h1
  have e1 : cEn a ≠ -1 := fun e => h1 ⟨hw, .inl e⟩
  have e2 : ¬ cBg b ≤ cEn a := fun e => h1 ⟨hw, .inr e⟩
  have e3 := s2 e1
  exact ⟨fun e => e1 (s1.2 e), ⟨by omega, by omega⟩, by omega⟩

/-! ### states -/
def Wait (cs : List Cl) (t : Nat → Nat) (c : Cl) : Prop := ∃ w n i x, w < 4 ∧ t w ≤ n ∧ (byL cs w)[n]? = some i ∧ cs[i]? = some x ∧ cCode x ≠ 0 ∧ cEn x < cBg c
def DoneS (cs : List Cl) (t : Nat → Nat) : Prop := ∀ w n i x, w < 4 → t w ≤ n → (byL cs w)[n]? = some i → cs[i]? = some x → cCode x = 0
def bump (t : Nat → Nat) (w : Nat) : Nat → Nat := fun v => if v = w then t v + 1 else t v
theorem bump_self (t : Nat → Nat) (w : Nat) : bump t w w = t w + 1 := by simp [bump]
theorem bump_ne (t : Nat → Nat) {w v : Nat} (h : v ≠ w) : bump t w v = t v := by simp [bump, h]
/-- A call may come next. -/
def Sx (cs : List Cl) (most : Int) (t : Nat → Nat) (xs : List Int) (w i : Nat) (c : Cl) : Prop := w < 4 ∧ (byL cs w)[t w]? = some i ∧ cs[i]? = some c ∧ (doL xs c most).2 = true ∧ ¬ Wait cs t c
inductive Way (cs : List Cl) (most : Int) : (Nat → Nat) → List Int → List Nat → (Nat → Nat) → List Int → Prop
  | nil (t xs) : Way cs most t xs [] t xs
  | cons {t xs w i c is t' xs'} : Sx cs most t xs w i c → Way cs most (bump t w) (doL xs c most).1 is t' xs' → Way cs most t xs (i :: is) t' xs'
theorem Way.inv {cs : List Cl} {most : Int} {P : List Nat → (Nat → Nat) → List Int → Prop} (step : ∀ pre t xs w i c, P pre t xs → Sx cs most t xs w i c → P (pre ++ [i]) (bump t w) (doL xs c most).1) {t xs is t' xs'} (h : Way cs most t xs is t' xs') :
    ∀ pre, P pre t xs → P (pre ++ is) t' xs' := by
  induction h with
  | nil t xs => intro pre hp; rwa [List.append_nil]
  | cons hs _ ih =>
    intro pre hp
    have := ih _ (step _ _ _ _ _ _ hp hs)
    rwa [List.append_assoc] at this
theorem Way.trans {cs most t xs is t' xs' js t'' xs''} (a : Way cs most t xs is t' xs') (b : Way cs most t' xs' js t'' xs'') : Way cs most t xs (is ++ js) t'' xs'' := by
  induction a with
  | nil => exact b
  | cons hs _ ih => exact .cons hs (ih b)
theorem Way.snoc {cs most t xs is t' xs' w i c} (a : Way cs most t xs is t' xs') (s : Sx cs most t' xs' w i c) : Way cs most t xs (is ++ [i]) (bump t' w) (doL xs' c most).1 := a.trans (.cons s (.nil _ _))
def z4 : Nat → Nat := fun _ => 0
def Rch (cs : List Cl) (most : Int) (t : Nat → Nat) (xs : List Int) : Prop := ∃ is, Way cs most z4 [] is t xs
def LiveS (cs : List Cl) (most : Int) (t : Nat → Nat) (xs : List Int) : Prop := ∃ is t' xs', Way cs most t xs is t' xs' ∧ DoneS cs t'
def Dead (cs : List Cl) (most : Int) (t : Nat → Nat) : Prop := ∀ xs, Rch cs most t xs → ¬ LiveS cs most t xs

/-! ### what the deque holds hangs on the state alone -/
def effO (st : List Int) (c : Cl) : List Int :=
  if (c.2.1 : Int) = 0 then (if cCode c = 3 then st else st ++ [c.2.2.1]) else (if cCode c = 5 then st else st.take (st.length - 1))
def takes1 (c : Cl) : Nat := if cCode c = 0 ∨ cCode c = 4 then 1 else 0
def callsOf (cs : List Cl) (l : List Nat) : List Cl := l.filterMap fun i => cs[i]?
def ownS (cs : List Cl) (n : Nat) : List Int := (callsOf cs ((byL cs 0).take n)).foldl effO []
def tkN (cs : List Cl) (w n : Nat) : Nat := ((callsOf cs ((byL cs w).take n)).map takes1).sum
theorem take_some {α : Type} {l : List α} {n : Nat} {x : α} (h : l[n]? = some x) : l.take (n + 1) = l.take n ++ [x] := by
  obtain ⟨h1, rfl⟩ := List.getElem?_eq_some_iff.1 h
  exact take_succ' l h1
theorem callsOf_succ {cs : List Cl} {w n i : Nat} {c : Cl} (h1 : (byL cs w)[n]? = some i) (h2 : cs[i]? = some c) : callsOf cs ((byL cs w).take (n + 1)) = callsOf cs ((byL cs w).take n) ++ [c] := by
  unfold callsOf
  rw [take_some h1, List.filterMap_append]
  simp [h2]
def rowS (cs : List Cl) (t : Nat → Nat) : List Int := (ownS cs (t 0)).drop (tkN cs 1 (t 1) + tkN cs 2 (t 2) + tkN cs 3 (t 3))
def rowOk (cs : List Cl) (t : Nat → Nat) (xs : List Int) : Prop := xs = rowS cs t ∧ tkN cs 1 (t 1) + tkN cs 2 (t 2) + tkN cs 3 (t 3) ≤ (ownS cs (t 0)).length
theorem rowOk_step {cs : List Cl} (hH : HistN cs cs.length) {most : Int} {t : Nat → Nat} {xs : List Int} {w i : Nat} {c : Cl} (h : rowOk cs t xs) (s : Sx cs most t xs w i c) : rowOk cs (bump t w) (doL xs c most).1 := by
  obtain ⟨s1, s2, s3, s4, s5⟩ := s
  obtain ⟨h1, h2⟩ := h
  obtain ⟨c', c1, c2⟩ := byL_at s2
  rw [s3] at c1; cases c1
  have hs := (hH i c (List.getElem?_eq_some_iff.1 s3).1 s3).1
  unfold rowS at h1
  obtain ⟨who, kind, arg, bg, en, code, v, u⟩ := c
  change Int at who kind arg bg en code v
  have hs : SoundI who kind bg en code := hs
  have c2 : who = (w : Int) := c2
  unfold SoundI May at hs
  have hcs := callsOf_succ s2 s3
  by_cases hw : w = 0
  · subst hw
    have b0 : bump t 0 0 = t 0 + 1 := bump_self t 0
    have b1 : bump t 0 1 = t 1 := bump_ne t (by decide)
    have b2 : bump t 0 2 = t 2 := bump_ne t (by decide)
    have b3 : bump t 0 3 = t 3 := bump_ne t (by decide)
    have hO : ownS cs (t 0 + 1) = effO (ownS cs (t 0)) (who, kind, arg, bg, en, code, v, u) := by
      unfold ownS
      rw [hcs, List.foldl_append]; rfl
    unfold rowOk rowS
    rw [b0, b1, b2, b3, hO]
    generalize hk : tkN cs 1 (t 1) + tkN cs 2 (t 2) + tkN cs 3 (t 3) = k at h1 h2 ⊢
    generalize ownS cs (t 0) = S at h1 h2 ⊢
    subst h1
    unfold effO cCode
    unfold doL at s4 ⊢
    dsimp only [Den] at s4 ⊢
    have hkc : (kind = 0 ∧ (code = 0 ∨ code = 2 ∨ code = 3)) ∨ (kind = 1 ∧ (code = 0 ∨ code = 4 ∨ code = 5)) := by omega
    have push : (most ≤ ((S.drop k).length : Int) → False) → rowS cs t = rowS cs t → S.drop k ++ [arg] = (S ++ [arg]).drop k ∧ k ≤ (S ++ [arg]).length := fun _ _ => ⟨(List.drop_append_of_le_length h2).symm, by rw [List.length_append]; omega⟩
    have pop : (S.drop k).length ≠ 0 → (S.drop k).take ((S.drop k).length - 1) = (S.take (S.length - 1)).drop k ∧ k ≤ (S.take (S.length - 1)).length := fun hne => by
      rw [List.length_drop] at hne ⊢
      refine ⟨?_, by rw [List.length_take]; omega⟩
      rw [List.drop_take]
      congr 1; omega
    rcases hkc with ⟨rfl, rfl | rfl | rfl⟩ | ⟨rfl, rfl | rfl | rfl⟩
    · by_cases q : most ≤ ((S.drop k).length : Int)
      · rw [if_neg (by decide), if_neg (by decide), if_neg (by decide), if_pos rfl, if_pos q] at s4
        cases s4
      · simp [q]
        have := push q rfl
        simp at this
        rw [List.length_drop] at q
        rw [if_neg (by omega)]
        exact ⟨this.1, by omega⟩
    · by_cases q : most ≤ ((S.drop k).length : Int)
      · rw [if_neg (by decide), if_neg (by decide), if_neg (by decide), if_pos rfl, if_pos q] at s4
        cases s4
      · simp [q]
        have := push q rfl
        simp at this
        rw [List.length_drop] at q
        rw [if_neg (by omega)]
        exact ⟨this.1, by omega⟩
    · simp; exact h2
    · by_cases q : (S.drop k).length = 0
      · rw [if_neg (by decide), if_neg (by decide), if_neg (by decide), if_neg (by decide), if_pos q] at s4
        cases s4
      · have := pop q
        rw [if_neg (by decide), if_neg (by decide), if_neg (by decide), if_neg (by decide), if_neg q, if_pos rfl, if_neg (by decide), if_neg (by decide)]
        exact this
    · by_cases q : (S.drop k).length = 0
      · rw [if_neg (by decide), if_neg (by decide), if_neg (by decide), if_neg (by decide), if_pos q] at s4
        cases s4
      · have := pop q
        rw [if_neg (by decide), if_neg (by decide), if_neg (by decide), if_neg (by decide), if_neg q, if_pos rfl, if_neg (by decide), if_neg (by decide)]
        exact this
    · simp; exact h2
  · have b0 : bump t w 0 = t 0 := bump_ne t (fun e => hw e.symm)
    have hk2 : kind = 2 ∧ (code = 0 ∨ code = 4 ∨ code = 5 ∨ code = 6) := by omega
    have hT : tkN cs w (t w + 1) = tkN cs w (t w) + takes1 (who, kind, arg, bg, en, code, v, u) := by
      unfold tkN
      rw [hcs, List.map_append, List.sum_append]; simp
    have hK : tkN cs 1 (bump t w 1) + tkN cs 2 (bump t w 2) + tkN cs 3 (bump t w 3) = tkN cs 1 (t 1) + tkN cs 2 (t 2) + tkN cs 3 (t 3) + takes1 (who, kind, arg, bg, en, code, v, u) := by
      have hw3 : w = 1 ∨ w = 2 ∨ w = 3 := by omega
      rcases hw3 with rfl | rfl | rfl
      · rw [bump_self, bump_ne t (by decide : (2 : Nat) ≠ 1), bump_ne t (by decide : (3 : Nat) ≠ 1), hT]; omega
      · rw [bump_self, bump_ne t (by decide : (1 : Nat) ≠ 2), bump_ne t (by decide : (3 : Nat) ≠ 2), hT]; omega
      · rw [bump_self, bump_ne t (by decide : (1 : Nat) ≠ 3), bump_ne t (by decide : (2 : Nat) ≠ 3), hT]; omega
    unfold rowOk rowS
    rw [b0, hK]
    generalize tkN cs 1 (t 1) + tkN cs 2 (t 2) + tkN cs 3 (t 3) = k at h1 h2 ⊢
    generalize ownS cs (t 0) = S at h1 h2 ⊢
    subst h1
    unfold takes1 cCode
    unfold doL at s4 ⊢
    dsimp only [Den] at s4 ⊢
    obtain ⟨rfl, hc⟩ := hk2
    have tk : (S.drop k).length ≠ 0 → (S.drop k).drop 1 = S.drop (k + 1) ∧ k + 1 ≤ S.length := fun hne => by
      rw [List.length_drop] at hne
      exact ⟨by rw [List.drop_drop], by omega⟩
    rcases hc with rfl | rfl | rfl | rfl
    · by_cases q : (S.drop k).length = 0
      · rw [if_neg (by decide), if_neg (by decide), if_neg (by decide), if_neg (by decide), if_pos q] at s4
        cases s4
      · rw [if_neg (by decide), if_neg (by decide), if_neg (by decide), if_neg (by decide), if_neg q, if_neg (by decide), if_pos (by decide)]
        exact tk q
    · by_cases q : (S.drop k).length = 0
      · rw [if_neg (by decide), if_neg (by decide), if_neg (by decide), if_neg (by decide), if_pos q] at s4
        cases s4
      · rw [if_neg (by decide), if_neg (by decide), if_neg (by decide), if_neg (by decide), if_neg q, if_neg (by decide), if_pos (by decide)]
        exact tk q
    · simp; exact h2
    · simp; exact h2
theorem Rch.row {cs : List Cl} (hH : HistN cs cs.length) {most : Int} {t : Nat → Nat} {xs : List Int} (h : Rch cs most t xs) : xs = rowS cs t := by
  obtain ⟨is, hw⟩ := h
  have := hw.inv (P := fun _ t xs => rowOk cs t xs) (fun pre t xs w i c hp hs => rowOk_step hH hp hs) [] ⟨by simp [rowS, ownS, tkN, z4, callsOf], by simp [ownS, tkN, z4, callsOf]⟩
  exact this.1
theorem Rch.one {cs : List Cl} (hH : HistN cs cs.length) {most : Int} {t : Nat → Nat} {xs ys : List Int} (a : Rch cs most t xs) (b : Rch cs most t ys) : xs = ys := by rw [a.row hH, b.row hH]

end Go.Mx

namespace Go.Mx

theorem sound_at {cs : List Cl} (hH : HistN cs cs.length) {i : Nat} {c : Cl} (h : cs[i]? = some c) : (cEn c = -1 ↔ cCode c = 0) ∧ (cEn c ≠ -1 → cBg c ≤ cEn c) ∧ 0 ≤ cWho c ∧ cWho c ≤ 3 ∧ 0 ≤ cBg c :=
  sound_facts (hH i c (List.getElem?_eq_some_iff.1 h).1 h).1
theorem byL_has {cs : List Cl} (hH : HistN cs cs.length) {i : Nat} {c : Cl} (h : cs[i]? = some c) : ∃ w n : Nat, w < 4 ∧ cWho c = (w : Int) ∧ (byL cs w)[n]? = some i := by
  obtain ⟨_, _, h1, h2, _⟩ := sound_at hH h
  obtain ⟨w, hw⟩ : ∃ w : Nat, cWho c = (w : Int) := ⟨(cWho c).toNat, by omega⟩
  obtain ⟨n, hn⟩ := List.mem_iff_getElem?.1 (mem_byL.2 ⟨c, h, hw⟩)
  exact ⟨w, n, by omega, hw, hn⟩

def iL (is : List Nat) : List Int := is.map fun (i : Nat) => (i : Int)
theorem iL_at {is : List Nat} {j : Nat} {k : Int} : (iL is)[j]? = some k ↔ ∃ i, is[j]? = some i ∧ k = (i : Int) := by
  unfold iL
  rw [List.getElem?_map]
  cases is[j]? with
  | none => simp
  | some i => simp; exact eq_comm
theorem StepsTo.ext {cs : List Cl} {most : Int} {os os' : List Int} : ∀ {n : Nat} {xs : List Int}, StepsTo cs most os n xs → (∀ j, j < n → os'[j]? = os[j]?) → StepsTo cs most os' n xs
  | 0, xs, h, e => h
  | n + 1, xs, ⟨ys, k, c, a1, a2, a3, a4, a5, a6⟩, e => ⟨ys, k, c, a1.ext fun j hj => e j (by omega), by rw [e n (by omega)]; exact a2, a3, a4, fun j hj => by rw [e j (by omega)]; exact a5 j hj, a6⟩

structure Laid (cs : List Cl) (most : Int) (pre : List Nat) (t : Nat → Nat) (xs : List Int) : Prop where
  steps : StepsTo cs most (iL pre) pre.length xs
  mem : ∀ i, i ∈ pre ↔ ∃ w n, w < 4 ∧ n < t w ∧ (byL cs w)[n]? = some i
  pairs : PairsL cs (iL pre) pre.length
  late : ∀ j ∈ pre, ∀ a, cs[j]? = some a → ∀ w n i x, w < 4 → t w ≤ n → (byL cs w)[n]? = some i → cs[i]? = some x → ¬ (cCode x ≠ 0 ∧ cEn x < cBg a)

theorem Laid.step {cs : List Cl} (hH : HistN cs cs.length) {most : Int} {pre : List Nat} {t : Nat → Nat} {xs : List Int} {w i : Nat} {c : Cl} (h : Laid cs most pre t xs) (s : Sx cs most t xs w i c) : Laid cs most (pre ++ [i]) (bump t w) (doL xs c most).1 := by
  obtain ⟨s1, s2, s3, s4, s5⟩ := s
  have hni : i ∉ pre := fun hm => by
    obtain ⟨w', n, q1, q2, q3⟩ := (h.mem i).1 hm
    obtain ⟨e1, e2⟩ := byL_inj q3 s2
    subst e1
    omega
  have hl : (iL (pre ++ [i])).length = pre.length + 1 := by simp [iL]
  have hpre : ∀ j, j < pre.length → (iL (pre ++ [i]))[j]? = (iL pre)[j]? := fun j hj => by
    unfold iL
    rw [List.map_append, List.getElem?_append_left (by simpa using hj)]
  have hlast : (iL (pre ++ [i]))[pre.length]? = some (i : Int) := by
    unfold iL
    rw [List.map_append, List.getElem?_append_right (by simp)]
    simp
  have remain : ∀ {w' n : Nat}, bump t w w' ≤ n → t w' ≤ n := fun {w' n} hb => by
    by_cases e : w' = w
    · subst e; rw [bump_self] at hb; omega
    · rwa [bump_ne t e] at hb
  refine ⟨?_, fun j => ?_, ?_, fun j hj a ha w' n i' x q1 q2 q3 q4 q5 => ?_⟩
  · rw [List.length_append]
    refine ⟨xs, (i : Int), c, h.steps.ext hpre, hlast, Int.natCast_nonneg i, by rw [Int.toNat_natCast]; exact s3, fun j hj => ?_, ?_⟩
    · rw [hpre j hj]
      intro e
      obtain ⟨i', e1, e2⟩ := iL_at.1 e
      have : i' = i := by omega
      subst this
      exact hni (List.mem_of_getElem? e1)
    · rw [← s4]
  · rw [List.mem_append, h.mem j]
    constructor
    · rintro (⟨w', n, q1, q2, q3⟩ | hj)
      · refine ⟨w', n, q1, ?_, q3⟩
        by_cases e : w' = w
        · subst e; rw [bump_self]; omega
        · rw [bump_ne t e]; exact q2
      · obtain rfl : j = i := by simpa using hj
        exact ⟨w, t w, s1, by rw [bump_self]; omega, s2⟩
    · rintro ⟨w', n, q1, q2, q3⟩
      by_cases e : w' = w
      · subst e
        rw [bump_self] at q2
        by_cases e2 : n = t w'
        · subst e2
          rw [s2] at q3; cases q3
          exact .inr (by simp)
        · exact .inl ⟨w', n, q1, by omega, q3⟩
      · rw [bump_ne t e] at q2
        exact .inl ⟨w', n, q1, q2, q3⟩
  · intro p q kp kq a b hpq hq hkp hkq ha hb
    rw [List.length_append] at hq
    have hq : q < pre.length + 1 := hq
    by_cases e : q = pre.length
    · subst e
      rw [hlast] at hkq; cases hkq
      rw [hpre p hpq] at hkp
      obtain ⟨j, j1, j2⟩ := iL_at.1 hkp
      subst j2
      rw [Int.toNat_natCast] at ha hb
      rw [s3] at hb; cases hb
      intro hah
      obtain ⟨f1, f2, f3, f4, f5⟩ := sound_at hH s3
      have : cCode c ≠ 0 := fun e => by have := f1.2 e; have := hah.1; omega
      exact h.late j (List.mem_of_getElem? j1) a ha w (t w) i c s1 (Nat.le_refl _) s2 s3 ⟨this, hah.2⟩
    · rw [hpre p (by omega)] at hkp
      rw [hpre q (by omega)] at hkq
      exact h.pairs p q kp kq a b hpq (by omega) hkp hkq ha hb
  · rcases List.mem_append.1 hj with hj | hj
    · exact h.late j hj a ha w' n i' x q1 (remain q2) q3 q4 q5
    · obtain rfl : j = i := by simpa using hj
      rw [s3] at ha; cases ha
      exact s5 ⟨w', n, i', x, q1, remain q2, q3, q4, q5⟩
theorem Laid.nil (cs : List Cl) (most : Int) : Laid cs most [] z4 [] :=
  ⟨rfl, fun i => ⟨fun h => (by cases h), fun ⟨w, n, _, h, _⟩ => absurd h (Nat.not_lt_zero _)⟩, fun p q kp kq a b _ hq => absurd hq (Nat.not_lt_zero _), fun j hj => (by cases hj)⟩
theorem Way.laid {cs : List Cl} (hH : HistN cs cs.length) {most : Int} {is t xs} (h : Way cs most z4 [] is t xs) : Laid cs most is t xs :=
  h.inv (P := Laid cs most) (fun pre t xs w i c hp hs => hp.step hH hs) [] (.nil cs most)
theorem Way.legal {cs : List Cl} (hH : HistN cs cs.length) {most : Int} {is t xs} (h : Way cs most z4 [] is t xs) (hd : DoneS cs t) : LegalL cs most (iL is) := by
  have l := h.laid hH
  have hlen : (iL is).length = is.length := by simp [iL]
  refine ⟨⟨xs, by rw [hlen]; exact l.steps⟩, by rw [hlen]; exact l.pairs, fun i c hi hc hen => ?_⟩
  obtain ⟨w, n, hw, _, hn⟩ := byL_has hH hc
  obtain ⟨f1, _⟩ := sound_at hH hc
  have hcode : cCode c ≠ 0 := fun e => by have := f1.2 e; omega
  have hlt : n < t w := Nat.lt_of_not_le fun hle => hcode (hd w n i c hw hle hn hc)
  obtain ⟨p, hp⟩ := List.mem_iff_getElem?.1 ((l.mem i).2 ⟨w, n, hw, hlt, hn⟩)
  exact ⟨p, iL_at.2 ⟨i, hp, rfl⟩⟩

theorem legal_way {cs : List Cl} (hH : HistN cs cs.length) {most : Int} {os : List Int} (hL : LegalL cs most os) : ∃ is t xs, iL is = os ∧ Way cs most z4 [] is t xs ∧ DoneS cs t := by
  obtain ⟨⟨ys, hS⟩, hP, hE⟩ := hL
  have ended : ∀ {i : Nat} {x : Cl}, cs[i]? = some x → cCode x ≠ 0 → 0 ≤ cEn x ∧ ∃ p : Nat, os[p]? = some (i : Int) := fun {i x} hx hc => by
    obtain ⟨f1, f2, _, _, f5⟩ := sound_at hH hx
    have e1 : cEn x ≠ -1 := fun e => hc (f1.1 e)
    have e2 := f2 e1
    exact ⟨by omega, hE i x (List.getElem?_eq_some_iff.1 hx).1 hx (by omega)⟩
  have key : ∀ n, n ≤ os.length → ∃ is t xs, iL is = os.take n ∧ Way cs most z4 [] is t xs ∧ StepsTo cs most os n xs := by
    intro n
    induction n with
    | zero => intro _; exact ⟨[], z4, [], rfl, .nil _ _, rfl⟩
    | succ n ih =>
      intro hn
      obtain ⟨is, t, xs, e, hw, hs⟩ := ih (by omega)
      have l := hw.laid hH
      obtain ⟨zs, hz⟩ := hS.down hn
      have hz0 := hz
      obtain ⟨ys', k, c, a1, a2, a3, a4, a5, a6⟩ := hz
      obtain rfl := a1.det hs
      obtain ⟨i, rfl⟩ : ∃ i : Nat, k = (i : Int) := ⟨k.toNat, by omega⟩
      rw [Int.toNat_natCast] at a4
      have islen : is.length = n := by
        have := congrArg List.length e
        simp [iL] at this
        omega
      have taken : ∀ {p i' : Nat}, os[p]? = some (i' : Int) → p < n → i' ∈ is := fun {p i'} hp hpn => by
        have : (iL is)[p]? = some (i' : Int) := by rw [e, List.getElem?_take_of_lt hpn]; exact hp
        obtain ⟨j, j1, j2⟩ := iL_at.1 this
        have : j = i' := by omega
        subst this
        exact List.mem_of_getElem? j1
      have hnot : i ∉ is := fun hm => by
        obtain ⟨p, hp⟩ := List.mem_iff_getElem?.1 hm
        have hpn : p < n := by rw [← islen]; exact (List.getElem?_eq_some_iff.1 hp).1
        have : (os.take n)[p]? = some (i : Int) := by rw [← e]; exact iL_at.2 ⟨i, hp, rfl⟩
        rw [List.getElem?_take_of_lt hpn] at this
        exact a5 p hpn this
      obtain ⟨w, m, hw4, hwho, hm⟩ := byL_has hH a4
      -- a call that is not yet taken and has ended stands behind
      have behind : ∀ {w' n' i' : Nat} {x : Cl}, w' < 4 → t w' ≤ n' → (byL cs w')[n']? = some i' → cs[i']? = some x → cCode x ≠ 0 → i' ≠ i → ¬ Ahead x c := fun {w' n' i' x} q1 q2 q3 q4 q5 q6 => by
        obtain ⟨_, q, hq⟩ := ended q4 q5
        have hqn : ¬ q < n := fun hlt => by
          obtain ⟨w'', n'', r1, r2, r3⟩ := (l.mem i').1 (taken hq hlt)
          obtain ⟨e1, e2⟩ := byL_inj r3 q3
          subst e1; omega
        have hqe : q ≠ n := fun e' => by subst e'; rw [a2] at hq; cases hq; exact q6 rfl
        exact hP n q (i : Int) (i' : Int) c x (by omega) (List.getElem?_eq_some_iff.1 hq).1 a2 hq (by rw [Int.toNat_natCast]; exact a4) (by rw [Int.toNat_natCast]; exact q4)
      have hmt : m = t w := by
        rcases Nat.lt_trichotomy m (t w) with h | h | h
        · exact absurd ((l.mem i).2 ⟨w, m, hw4, h, hm⟩) hnot
        · exact h
        · obtain ⟨i0, hi0⟩ : ∃ i0, (byL cs w)[t w]? = some i0 := ⟨_, List.getElem?_eq_getElem (by have := (List.getElem?_eq_some_iff.1 hm).1; omega)⟩
          obtain ⟨x0, x1, x2⟩ := byL_at hi0
          have hlt := byL_lt hi0 hm h
          obtain ⟨g1, g2, g3⟩ := hist_ahead hH hlt x1 a4 (by omega)
          exact absurd g2 (behind hw4 (Nat.le_refl _) hi0 x1 g1 (by omega))
      subst hmt
      obtain ⟨f1, f2, _, _, f5⟩ := sound_at hH a4
      have sx : Sx cs most t ys' w i c := by
        refine ⟨hw4, hm, a4, by rw [a6], ?_⟩
        rintro ⟨w', n', i', x, q1, q2, q3, q4, q5, q6⟩
        obtain ⟨p1, p2⟩ := ended q4 q5
        by_cases e' : i' = i
        · subst e'
          rw [a4] at q4; cases q4
          have := f2 (fun e => q5 (f1.1 e))
          omega
        · exact behind q1 q2 q3 q4 q5 e' ⟨p1, q6⟩
      refine ⟨is ++ [i], _, _, ?_, hw.snoc sx, ?_⟩
      · rw [take_some a2, ← e]; simp [iL]
      · rw [a6]; exact hz0
  obtain ⟨is, t, xs, e, hw, _⟩ := key os.length (Nat.le_refl _)
  rw [List.take_length] at e
  refine ⟨is, t, xs, e, hw, fun w n i x q1 q2 q3 q4 => ?_⟩
  apply Classical.byContradiction
  intro hc
  obtain ⟨_, p, hp⟩ := ended q4 hc
  rw [← e] at hp
  obtain ⟨j, j1, j2⟩ := iL_at.1 hp
  have : j = i := by omega
  subst this
  obtain ⟨w', n', r1, r2, r3⟩ := ((hw.laid hH).mem j).1 (List.mem_of_getElem? j1)
  obtain ⟨e1, e2⟩ := byL_inj r3 q3
  subst e1; omega

/-! ### the reference's questions -/
theorem free_iff {cs : List Cl} (hH : HistN cs cs.length) {t : Nat → Nat} {i : Nat} {c : Cl} (hc : cs[i]? = some c) :
    (∀ w' j x, w' < 4 → (byL cs w')[t w']? = some j → j ≠ i → cs[j]? = some x → ¬ Ahead x c) ↔ ¬ Wait cs t c := by
  obtain ⟨f1, f2, _, _, f5⟩ := sound_at hH hc
  have self : cCode c ≠ 0 → ¬ cEn c < cBg c := fun h => by
    have := f2 (fun e => h (f1.1 e))
    omega
  constructor
  · rintro h ⟨w', n', i', x, q1, q2, q3, q4, q5, q6⟩
    obtain ⟨g1, g2, _, _, g5⟩ := sound_at hH q4
    have hx := g2 (fun e => q5 (g1.1 e))
    by_cases e : n' = t w'
    · subst e
      by_cases e2 : i' = i
      · subst e2; rw [hc] at q4; cases q4; exact self q5 q6
      · exact h w' i' x q1 q3 e2 q4 ⟨by omega, q6⟩
    · obtain ⟨j0, hj0⟩ : ∃ j0, (byL cs w')[t w']? = some j0 := ⟨_, List.getElem?_eq_getElem (by have := (List.getElem?_eq_some_iff.1 q3).1; omega)⟩
      obtain ⟨x0, x1, x2⟩ := byL_at hj0
      obtain ⟨y0, y1, y2⟩ := byL_at q3
      rw [q4] at y1; cases y1
      have hlt := byL_lt hj0 q3 (by omega)
      obtain ⟨k1, k2, k3⟩ := hist_ahead hH hlt x1 q4 (by omega)
      have hah : Ahead x0 c := ⟨k2.1, by omega⟩
      by_cases e2 : j0 = i
      · subst e2; rw [hc] at x1; cases x1; exact self k1 hah.2
      · exact h w' j0 x0 q1 hj0 e2 x1 hah
  · intro h w' j x q1 q2 q3 q4 hah
    obtain ⟨g1, _⟩ := sound_at hH q4
    exact h ⟨w', t w', j, x, q1, Nat.le_refl _, q2, q4, fun e => (by have := g1.2 e; have := hah.1; omega), hah.2⟩
theorem over_iff {cs : List Cl} (hH : HistN cs cs.length) {t : Nat → Nat} : (∀ w j x, w < 4 → (byL cs w)[t w]? = some j → cs[j]? = some x → ¬ 0 ≤ cEn x) ↔ DoneS cs t := by
  constructor
  · intro h w n i x q1 q2 q3 q4
    obtain ⟨g1, g2, _, _, g5⟩ := sound_at hH q4
    by_cases e : n = t w
    · subst e
      have := h w i x q1 q3 q4
      apply Classical.byContradiction
      intro hc
      have := g2 (fun e => hc (g1.1 e))
      omega
    · obtain ⟨j0, hj0⟩ : ∃ j0, (byL cs w)[t w]? = some j0 := ⟨_, List.getElem?_eq_getElem (by have := (List.getElem?_eq_some_iff.1 q3).1; omega)⟩
      obtain ⟨x0, x1, x2⟩ := byL_at hj0
      obtain ⟨y0, y1, y2⟩ := byL_at q3
      rw [q4] at y1; cases y1
      obtain ⟨_, k2, _⟩ := hist_ahead hH (byL_lt hj0 q3 (by omega)) x1 q4 (by omega)
      exact absurd k2.1 (h w j0 x0 q1 hj0 x1)
  · intro h w j x q1 q2 q3 hen
    obtain ⟨g1, _⟩ := sound_at hH q3
    have := g1.2 (h w (t w) j x q1 (Nat.le_refl _) q2 q3)
    omega

/-- How much is done. -/
def sum4 (t : Nat → Nat) : Nat := t 0 + t 1 + t 2 + t 3
theorem sum4_bump {t : Nat → Nat} {w : Nat} (h : w < 4) : sum4 (bump t w) = sum4 t + 1 := by
  unfold sum4 bump
  have : w = 0 ∨ w = 1 ∨ w = 2 ∨ w = 3 := by omega
  rcases this with rfl | rfl | rfl | rfl <;> simp <;> omega
structure Fits (cs : List Cl) (pre : List Nat) (t : Nat → Nat) : Prop where
  len : pre.length = sum4 t
  le : ∀ w, t w ≤ (byL cs w).length
theorem Fits.step {cs : List Cl} {most : Int} {pre : List Nat} {t : Nat → Nat} {xs : List Int} {w i : Nat} {c : Cl} (h : Fits cs pre t) (s : Sx cs most t xs w i c) : Fits cs (pre ++ [i]) (bump t w) := by
  refine ⟨by rw [List.length_append, h.len, sum4_bump s.1]; rfl, fun w' => ?_⟩
  by_cases e : w' = w
  · subst e
    rw [bump_self]
    exact (List.getElem?_eq_some_iff.1 s.2.1).1
  · rw [bump_ne t e]; exact h.le w'
theorem Way.fits {cs : List Cl} {most : Int} {is t xs} (h : Way cs most z4 [] is t xs) : Fits cs is t :=
  h.inv (P := fun pre t _ => Fits cs pre t) (fun pre t xs w i c hp hs => hp.step hs) [] ⟨rfl, fun _ => Nat.zero_le _⟩
theorem byL_sum (cs : List Cl) : ∀ n, (byN cs n 0).length + (byN cs n 1).length + (byN cs n 2).length + (byN cs n 3).length ≤ n
  | 0 => by simp [byN]
  | n + 1 => by
    have ih := byL_sum cs n
    rw [byN_succ, byN_succ, byN_succ, byN_succ]
    simp only [List.length_append]
    have ex : ∀ a b : Nat, a ≠ b → isBy cs a n = true → isBy cs b n = true → False := fun a b hab ha hb => by
      obtain ⟨c, c1, c2⟩ := isBy_iff.1 ha
      obtain ⟨d, d1, d2⟩ := isBy_iff.1 hb
      rw [c1] at d1; cases d1
      omega
    cases h0 : isBy cs 0 n <;> cases h1 : isBy cs 1 n <;> cases h2 : isBy cs 2 n <;> cases h3 : isBy cs 3 n <;> simp <;> first | omega | (exfalso; first | exact ex 0 1 (by decide) h0 h1 | exact ex 0 2 (by decide) h0 h2 | exact ex 0 3 (by decide) h0 h3 | exact ex 1 2 (by decide) h1 h2 | exact ex 1 3 (by decide) h1 h3 | exact ex 2 3 (by decide) h2 h3)
theorem Fits.sum {cs : List Cl} {pre : List Nat} {t : Nat → Nat} (h : Fits cs pre t) : sum4 t ≤ cs.length := by
  have := byL_sum cs cs.length
  have h0 := h.le 0
  have h1 := h.le 1
  have h2 := h.le 2
  have h3 := h.le 3
  unfold byL at h0 h1 h2 h3
  unfold sum4
  omega

end Go.Mx

namespace Go.Mx

/-! ### maps -/
def getL (kk : Kd) {β : Type} (l : List (Den kk × β)) (key : Den kk) : Option β := (fi kk key l 0).map (·.2)
theorem fi_shift {kk : Kd} {β : Type} {key : Den kk} : ∀ (l : List (Den kk × β)) (i : Nat), fi kk key l (i + 1) = (fi kk key l i).map fun p => (p.1 + 1, p.2)
  | [], i => rfl
  | p :: l, i => by
    simp only [fi]
    cases eqK kk key p.1
    · exact fi_shift l (i + 1)
    · rfl
theorem getL_cons {kk : Kd} {β : Type} {key : Den kk} (p : Den kk × β) (l : List (Den kk × β)) : getL kk (p :: l) key = bif eqK kk key p.1 then some p.2 else getL kk l key := by
  unfold getL
  simp only [fi]
  cases eqK kk key p.1
  · simp only [cond_false]
    rw [fi_shift, Option.map_map]; rfl
  · rfl
theorem getL_put {kk : Kd} (hq : ∀ x y : Den kk, eqK kk x y = true ↔ x = y) {β : Type} (key : Den kk) (v : β) (k' : Den kk) : ∀ (l : List (Den kk × β)), getL kk (mapPutL kk l key v) k' = bif eqK kk k' key then some v else getL kk l k'
  | [] => by
    show getL kk [(key, v)] k' = _
    rw [getL_cons]
  | p :: l => by
    have ih := getL_put hq key v k' l
    unfold mapPutL at ih ⊢
    simp only [fi]
    cases e : eqK kk key p.1
    · simp only [cond_false]
      rw [fi_shift]
      cases f : fi kk key l 0 with
      | none =>
        rw [f] at ih
        dsimp only [Option.map] at ih ⊢
        rw [List.cons_append, getL_cons, ih, getL_cons]
        cases e1 : eqK kk k' p.1
        · rfl
        · cases e2 : eqK kk k' key
          · rfl
          · have h1 := (hq k' p.1).1 e1
            have h2 := (hq k' key).1 e2
            rw [(hq key p.1).2 (h2.symm.trans h1)] at e; cases e
      | some q =>
        rw [f] at ih
        dsimp only [Option.map] at ih ⊢
        rw [List.set_cons_succ, getL_cons, ih, getL_cons]
        cases e1 : eqK kk k' p.1
        · rfl
        · cases e2 : eqK kk k' key
          · rfl
          · have h1 := (hq k' p.1).1 e1
            have h2 := (hq k' key).1 e2
            rw [(hq key p.1).2 (h2.symm.trans h1)] at e; cases e
    · simp only [cond_true]
      rw [List.set_cons_zero, getL_cons, getL_cons]
      have h1 := (hq key p.1).1 e
      show (bif eqK kk k' key then some v else getL kk l k') = _
      rw [← h1]
      cases eqK kk k' key <;> rfl

abbrev kt4 : Kd := .arr 4 ki
theorem eq_kt4 (x y : Den kt4) : eqK kt4 x y = true ↔ x = y := by
  constructor
  · intro h
    simp only [eqK, List.all_eq_true, List.mem_finRange, true_implies] at h
    exact funext fun i => of_decide_eq_true (h i)
  · rintro rfl
    simp [eqK]

/-- What is taken, as the program writes it. -/
def tk (t : Nat → Nat) : Den kt4 := fun i => (t i.val : Int)
theorem tk_at (t : Nat → Nat) {w : Nat} (h : w < 4) : aget (n := 4) (a := ki) (tk t) w = (t w : Int) := by
  unfold aget; rw [dif_pos h]; rfl
theorem tk_bump (t : Nat → Nat) {w : Nat} (h : w < 4) (hb : t w ≤ 1000000) : aset (n := 4) (a := ki) (tk t) w (w64 (aget (n := 4) (a := ki) (tk t) w + 1)) = tk (bump t w) := by
  funext i
  unfold aset
  rw [tk_at t h]
  by_cases e : i.val = w
  · rw [if_pos e]
    show w64 ((t w : Int) + 1) = ((bump t w i.val : Nat) : Int)
    rw [e, bump_self, w64_of (by omega) (by omega)]
    omega
  · rw [if_neg e]
    unfold tk
    rw [bump_ne t e]
theorem tk_inj {t t' : Nat → Nat} (h : tk t = tk t') {w : Nat} (hw : w < 4) : t w = t' w := by
  have := congrFun h ⟨w, hw⟩
  unfold tk at this
  dsimp only at this
  exact Int.ofNat.inj this
theorem Rch.out {cs most t xs} (h : Rch cs most t xs) {w : Nat} (hw : 4 ≤ w) : t w = 0 := by
  obtain ⟨is, hW⟩ := h
  refine hW.inv (P := fun _ t _ => t w = 0) (fun pre t xs w' i c hp hs => ?_) [] rfl
  rw [bump_ne t (by have := hs.1; omega)]; exact hp
theorem Rch.same {cs most t xs t' xs'} (a : Rch cs most t xs) (b : Rch cs most t' xs') (h : tk t = tk t') : t = t' := by
  funext w
  by_cases hw : w < 4
  · exact tk_inj h hw
  · rw [a.out (by omega), b.out (by omega)]
theorem Rch.fits {cs most t xs} (a : Rch cs most t xs) : sum4 t ≤ cs.length ∧ ∀ w, t w ≤ (byL cs w).length := by
  obtain ⟨is, h⟩ := a
  exact ⟨h.fits.sum, h.fits.le⟩
theorem Rch.len {cs most t xs} (a : Rch cs most t xs) : xs.length ≤ cs.length := by
  obtain ⟨is, h⟩ := a
  have h1 := h.inv (P := fun pre t xs => xs.length ≤ pre.length ∧ True) (fun pre t xs w i c hp hs => ⟨by
    have := doL_len1 xs c most
    rw [List.length_append]
    show _ ≤ _ + 1
    omega, trivial⟩) [] ⟨Nat.le_refl _, trivial⟩
  have h2 := h.fits
  have := h2.sum
  have := h2.len
  have := h1.1
  rw [List.nil_append] at this
  omega
theorem Rch.step {cs most t xs w i c} (a : Rch cs most t xs) (s : Sx cs most t xs w i c) : Rch cs most (bump t w) (doL xs c most).1 := by
  obtain ⟨is, h⟩ := a
  exact ⟨_, h.snoc s⟩
def Met (ml : List (Den kt4 × Int)) (t : Nat → Nat) : Prop := 0 < (getL kt4 ml (tk t)).getD 0
theorem met_put (ml : List (Den kt4 × Int)) (t t' : Nat → Nat) : Met (mapPutL kt4 ml (tk t) 1) t' ↔ tk t' = tk t ∨ Met ml t' := by
  unfold Met
  rw [getL_put eq_kt4]
  cases e : eqK kt4 (tk t') (tk t)
  · have : tk t' ≠ tk t := fun h => by rw [(eq_kt4 _ _).2 h] at e; cases e
    simp [this]
  · have : tk t' = tk t := (eq_kt4 _ _).1 e
    simp [this]

/-! ### the search's object -/
theorem Arr.lives {h : Heap} {k : Kd} {s : Sl} {xs : List (Den k)} (c : Arr h k s xs) (hx : xs ≠ []) (hs : k.size ≠ 0) {x : Nat} (hb : blkOf s x) : h x ≠ none := by
  obtain ⟨a, n, m⟩ := s
  obtain ⟨a', e, rfl⟩ := hb
  cases e
  have c3 : cellsAt h a' (xs.flatMap k.cells) := c.2.2
  intro hn
  have hl : 0 < (xs.flatMap k.cells).length := by
    rw [flat_len]
    exact Nat.mul_pos (List.length_pos_iff.2 hx) (Nat.pos_of_ne_zero hs)
  have := c3 0 _ (List.getElem?_eq_getElem hl)
  unfold cell at this
  rw [show (a'.add 0).block = a'.block from rfl, hn] at this
  cases this
def fpQ (b m : Nat) (o : Sl) : Nat → Prop := fun x => x = b ∨ x = m ∨ blkOf o x
/-- A list that the search does not touch. -/
structure Calm (h : Heap) (b m : Nat) (o : Sl) (k : Kd) (s : Sl) (xs : List (Den k)) : Prop where
  arr : Arr h k s xs
  off : xs ≠ [] → ∀ x, blkOf s x → ¬ fpQ b m o x
theorem Calm.keep {h h' b m o o' k s xs} (c : Calm h b m o k s xs) (hs : k.size ≠ 0) (st : Step (fpQ b m o) (fpQ b m o') h h') : Calm h' b m o' k s xs :=
  ⟨c.arr.ext' st.1 c.off, fun hx => st.off (c.off hx) (fun x q => c.arr.lives hx hs q)⟩
structure SrR (h0 h : Heap) (b m : Nat) (calls : Sl) (most : Int) (by' : Fin 4 → Sl) (o : Sl) (cs : List Cl) (ml : List (Den kt4 × Int)) (os : List Int) : Prop where
  obj : Obj h b khistsearch (calls, (most, (by', (some m, (o, ())))))
  map : MapIs h m kt4 ki ml
  ord : New h0 h ki o os
  ne : m ≠ b
  nb : h0 b = none
  nm : h0 m = none
  ob : ¬ blkOf o b
  om : ¬ blkOf o m
  cal : Calm h b m o kapiCall calls cs
  bys : ∀ w, w < 4 → Calm h b m o ki (aget (n := 4) (a := .sl) by' w) (iL (byL cs w))

section
variable {h0 h : Heap} {b m : Nat} {calls : Sl} {most : Int} {by' : Fin 4 → Sl} {o : Sl} {cs : List Cl} {ml : List (Den kt4 × Int)} {os : List Int} (r : SrR h0 h b m calls most by' o cs ml os)
include r
theorem SrR.ld0 {K : Sl → Prop} (hK : K calls) : ld .sl h ((ptr b).add 0) K := r.obj.ld (kf := .sl) ⟨[], _, rfl, rfl⟩ hK
theorem SrR.ld1 {K : Int → Prop} (hK : K most) : ld ki h ((ptr b).add 1) K := r.obj.ld (kf := ki) (y := most) ⟨[calls.val], _, rfl, rfl⟩ hK
theorem SrR.ld2 {K : (Fin 4 → Sl) → Prop} (hK : K by') : ld (.arr 4 .sl) h ((ptr b).add 2) K := r.obj.ld (kf := .arr 4 .sl) (y := by') ⟨[calls.val, .int .i64 most], [.map (some m), o.val], by simp [Kd.cells, Kd.val], rfl⟩ hK
theorem SrR.ld6 {K : Option Nat → Prop} (hK : K (some m)) : ld .map h ((ptr b).add 6) K := r.obj.ld (kf := .map) (y := some m) ⟨[calls.val, .int .i64 most, (by' 0).val, (by' 1).val, (by' 2).val, (by' 3).val], [o.val], rfl, rfl⟩ hK
theorem SrR.ld7 {K : Sl → Prop} (hK : K o) : ld .sl h ((ptr b).add 7) K := r.obj.ld (kf := .sl) (y := o) ⟨[calls.val, .int .i64 most, (by' 0).val, (by' 1).val, (by' 2).val, (by' 3).val, .map (some m)], [], rfl, rfl⟩ hK
theorem SrR.live {x : Nat} (hx : fpQ b m o x) : h x ≠ none := by
  rcases hx with rfl | rfl | hx
  · exact r.obj.live
  · obtain ⟨es, c, e, _⟩ := r.map
    rw [e]; exact fun q => by cases q
  · exact r.ord.own.live x hx
theorem SrR.le : le h0 h := r.ord.le
theorem SrR.fresh {x : Nat} (hx : fpQ b m o x) : h0 x = none := by
  rcases hx with rfl | rfl | hx
  · exact r.nb
  · exact r.nm
  · exact r.ord.new x hx
/-- Nothing that the search stands on was touched. -/
theorem SrR.more {h' : Heap} (l : Go.Mx.le h h') : SrR h0 h' b m calls most by' o cs ml os :=
  ⟨r.obj.le l, by obtain ⟨es, c, e, f⟩ := r.map; exact ⟨es, c, l _ _ e, f⟩, r.ord.more l, r.ne, r.nb, r.nm, r.ob, r.om, ⟨r.cal.arr.le l, r.cal.off⟩, fun w hw => ⟨(r.bys w hw).arr.le l, (r.bys w hw).off⟩⟩

theorem done_spec {t : Nat → Nat} (hf : ∀ w, t w ≤ (byL cs w).length) (hl : cs.length ≤ 40) {Q : Bool → Heap → Prop} (hQ : ∀ d : Bool, (d = true ↔ DoneS cs t) → Q d h) : hist_search_done.M (some (ptr b)) (tk t) h Q := by
  refine r.ld2 ?_
  refine Loop.up 4 (fun s => s.1) (fun w s k => k = h ∧ ∀ w' n i x, w' < w → t w' ≤ n → (byL cs w')[n]? = some i → cs[i]? = some x → cCode x = 0) rfl ⟨rfl, fun w' n i x hw => absurd hw (Nat.not_lt_zero _)⟩ ?_
  rintro w ⟨w', u⟩ k go hw hc ⟨rfl, hI⟩ hgo
  dsimp only at hc; subst hc
  refine ⟨fun e => ?_, fun e => ?_⟩
  · have e : (w : Int) < 4 := of_decide_eq_true e
    have hw4 : w < 4 := by omega
    have hb4 : (0 : Int) ≤ (w : Int) ∧ (w : Int) < (4 : Int) := by omega
    have hby := r.bys w hw4
    have hlen : (iL (byL cs w)).length = (aget (n := 4) (a := .sl) by' w).len := hby.arr.1
    have hlen' : (byL cs w).length = (aget (n := 4) (a := .sl) by' w).len := by rw [← hlen]; simp [iL]
    have hfw := hf w
    have hbl := byL_len cs w
    dsimp only
    rw [Int.toNat_natCast, tk_at t hw4]
    have hbt : (0 : Int) ≤ (t w : Int) ∧ (t w : Int) ≤ ((aget (n := 4) (a := .sl) by' w).len : Int) := by omega
    refine ⟨hb4, hb4, hbt, ?_⟩
    have hsuf := hby.arr.suf (n := t w) (by omega) (sz := 1) rfl
    have hsl := hsuf.1
    rw [List.length_drop, hlen] at hsl
    refine Loop.up ((aget (n := 4) (a := .sl) by' w).len - t w) (fun s => s.1) (fun n s k' => k' = k ∧ ∀ n' i x, n' < n → (byL cs w)[t w + n']? = some i → cs[i]? = some x → cCode x = 0) rfl ⟨rfl, fun n' i x hn => absurd hn (Nat.not_lt_zero _)⟩ ?_
    rintro n ⟨n', u2⟩ k2 go2 hn hc ⟨rfl, hJ⟩ hgo2
    dsimp only at hc; subst hc
    unfold hist_search_done.l1
    dsimp only
    rw [Int.toNat_natCast, tk_at t hw4, Int.toNat_natCast]
    refine ⟨fun f => ?_, fun f => ?_⟩
    · have f : (n : Int) < ((((aget (n := 4) (a := .sl) by' w).cut (t w) (aget (n := 4) (a := .sl) by' w).len 1).len : Nat) : Int) := of_decide_eq_true f
      have hbn : (0 : Int) ≤ (n : Int) := by omega
      refine ⟨⟨hbn, f⟩, hsuf.at hbn f rfl fun v hv => ?_⟩
      rw [Int.toNat_natCast, List.getElem?_drop] at hv
      obtain ⟨i, hi, rfl⟩ := iL_at.1 hv
      obtain ⟨x, hx, _⟩ := byL_at hi
      have hil := (List.getElem?_eq_some_iff.1 hx).1
      have hcl : cs.length = calls.len := r.cal.arr.1
      have hbi : (0 : Int) ≤ (i : Int) ∧ (i : Int) < (calls.len : Int) := by omega
      refine r.ld0 ⟨hbi, r.cal.arr.part (kp := ki) (f := fun c => cCode c) hbi.1 hbi.2 rfl (fun c => ⟨[.int .i64 c.1, .int .i64 c.2.1, .int .i64 c.2.2.1, .int .i64 c.2.2.2.1, .int .i64 c.2.2.2.2.1], [.int .i64 c.2.2.2.2.2.2.1], rfl, rfl⟩) fun c hc' => ?_⟩
      rw [Int.toNat_natCast, hx] at hc'; cases hc'
      refine ⟨fun g => ?_, fun g => ?_⟩
      · have g : cCode x ≠ 0 := of_decide_eq_true g
        exact hQ false ⟨fun q => (by cases q), fun q => absurd (q w (t w + n) i x hw4 (by omega) hi hx) g⟩
      · have g : ¬ cCode x ≠ 0 := of_decide_eq_false g
        have g : cCode x = 0 := Decidable.byContradiction g
        refine hgo2 (by omega) _ _ (by show w64 ((n : Int) + 1) = _; rw [w64_of] <;> omega) ⟨rfl, fun n' i' x' hn' hi' hx' => ?_⟩
        by_cases q : n' = n
        · subst q; rw [hi] at hi'; cases hi'; rw [hx] at hx'; cases hx'; exact g
        · exact hJ n' i' x' (by omega) hi' hx'
    · have f : ¬ (n : Int) < ((((aget (n := 4) (a := .sl) by' w).cut (t w) (aget (n := 4) (a := .sl) by' w).len 1).len : Nat) : Int) := of_decide_eq_false f
      refine hgo hw4 _ _ (by show w64 ((w : Int) + 1) = _; rw [w64_of] <;> omega) ⟨rfl, fun w' n' i x hw' q1 q2 q3 => ?_⟩
      by_cases q : w' = w
      · subst q
        refine hJ (n' - t w') i x ?_ (by rw [show t w' + (n' - t w') = n' from by omega]; exact q2) q3
        have := (List.getElem?_eq_some_iff.1 q2).1
        omega
      · exact hI w' n' i x (by omega) q1 q2 q3
  · have e : ¬ (w : Int) < 4 := of_decide_eq_false e
    exact hQ true ⟨fun _ w' n i x q1 q2 q3 q4 => hI w' n i x (by omega) q2 q3 q4, fun _ => rfl⟩

theorem waits_spec {t : Nat → Nat} (hf : ∀ w, t w ≤ (byL cs w).length) (hl : cs.length ≤ 40) (c : Cl) {Q : Bool → Heap → Prop} (hQ : ∀ d : Bool, (d = true ↔ Wait cs t c) → Q d h) : hist_search_waits.M (some (ptr b)) (tk t) c h Q := by
  refine r.ld2 ?_
  refine Loop.up 4 (fun s => s.1) (fun w s k => k = h ∧ ∀ w' n i x, w' < w → t w' ≤ n → (byL cs w')[n]? = some i → cs[i]? = some x → ¬ (cCode x ≠ 0 ∧ cEn x < cBg c)) rfl ⟨rfl, fun w' n i x hw => absurd hw (Nat.not_lt_zero _)⟩ ?_
  rintro w ⟨w', u⟩ k go hw hc ⟨rfl, hI⟩ hgo
  dsimp only at hc; subst hc
  refine ⟨fun e => ?_, fun e => ?_⟩
  · have e : (w : Int) < 4 := of_decide_eq_true e
    have hw4 : w < 4 := by omega
    have hb4 : (0 : Int) ≤ (w : Int) ∧ (w : Int) < (4 : Int) := by omega
    have hby := r.bys w hw4
    have hlen : (iL (byL cs w)).length = (aget (n := 4) (a := .sl) by' w).len := hby.arr.1
    have hlen' : (byL cs w).length = (aget (n := 4) (a := .sl) by' w).len := by rw [← hlen]; simp [iL]
    have hfw := hf w
    have hbl := byL_len cs w
    dsimp only
    rw [Int.toNat_natCast, tk_at t hw4]
    have hbt : (0 : Int) ≤ (t w : Int) ∧ (t w : Int) ≤ ((aget (n := 4) (a := .sl) by' w).len : Int) := by omega
    refine ⟨hb4, hb4, hbt, ?_⟩
    have hsuf := hby.arr.suf (n := t w) (by omega) (sz := 1) rfl
    have hsl := hsuf.1
    rw [List.length_drop, hlen] at hsl
    refine Loop.up ((aget (n := 4) (a := .sl) by' w).len - t w) (fun s => s.1) (fun n s k' => k' = k ∧ ∀ n' i x, n' < n → (byL cs w)[t w + n']? = some i → cs[i]? = some x → ¬ (cCode x ≠ 0 ∧ cEn x < cBg c)) rfl ⟨rfl, fun n' i x hn => absurd hn (Nat.not_lt_zero _)⟩ ?_
    rintro n ⟨n', u2⟩ k2 go2 hn hc ⟨rfl, hJ⟩ hgo2
    dsimp only at hc; subst hc
    unfold hist_search_waits.l3
    dsimp only
    rw [Int.toNat_natCast, tk_at t hw4, Int.toNat_natCast]
    refine ⟨fun f => ?_, fun f => ?_⟩
    · have f : (n : Int) < ((((aget (n := 4) (a := .sl) by' w).cut (t w) (aget (n := 4) (a := .sl) by' w).len 1).len : Nat) : Int) := of_decide_eq_true f
      have hbn : (0 : Int) ≤ (n : Int) := by omega
      refine ⟨⟨hbn, f⟩, hsuf.at hbn f rfl fun v hv => ?_⟩
      rw [Int.toNat_natCast, List.getElem?_drop] at hv
      obtain ⟨i, hi, rfl⟩ := iL_at.1 hv
      obtain ⟨x, hx, _⟩ := byL_at hi
      have hil := (List.getElem?_eq_some_iff.1 hx).1
      have hcl : cs.length = calls.len := r.cal.arr.1
      have hbi : (0 : Int) ≤ (i : Int) ∧ (i : Int) < (calls.len : Int) := by omega
      refine r.ld0 ⟨hbi, r.cal.arr.at hbi.1 hbi.2 rfl fun c' hc' => ?_⟩
      rw [Int.toNat_natCast, hx] at hc'; cases hc'
      have nxt : ¬ (cCode x ≠ 0 ∧ cEn x < cBg c) → go2 (w64 ((n : Int) + 1), ()) k2 := fun g => by
        refine hgo2 (by omega) _ _ (by show w64 ((n : Int) + 1) = _; rw [w64_of] <;> omega) ⟨rfl, fun n' i' x' hn' hi' hx' => ?_⟩
        by_cases q : n' = n
        · subst q; rw [hi] at hi'; cases hi'; rw [hx] at hx'; cases hx'; exact g
        · exact hJ n' i' x' (by omega) hi' hx'
      refine ⟨fun g => ⟨fun g2 => ?_, fun g2 => ?_⟩, fun g => ⟨fun g2 => (by cases g2), fun _ => ?_⟩⟩
      · have g : cCode x ≠ 0 := of_decide_eq_true g
        have g2 : cEn x < cBg c := of_decide_eq_true g2
        exact hQ true ⟨fun _ => ⟨w, t w + n, i, x, hw4, by omega, hi, hx, g, g2⟩, fun _ => rfl⟩
      · have g2 : ¬ cEn x < cBg c := of_decide_eq_false g2
        exact nxt fun q => g2 q.2
      · have g : ¬ cCode x ≠ 0 := of_decide_eq_false g
        exact nxt fun q => g q.1
    · have f : ¬ (n : Int) < ((((aget (n := 4) (a := .sl) by' w).cut (t w) (aget (n := 4) (a := .sl) by' w).len 1).len : Nat) : Int) := of_decide_eq_false f
      refine hgo hw4 _ _ (by show w64 ((w : Int) + 1) = _; rw [w64_of] <;> omega) ⟨rfl, fun w' n' i x hw' q1 q2 q3 => ?_⟩
      by_cases q : w' = w
      · subst q
        refine hJ (n' - t w') i x ?_ (by rw [show t w' + (n' - t w') = n' from by omega]; exact q2) q3
        have := (List.getElem?_eq_some_iff.1 q2).1
        omega
      · exact hI w' n' i x (by omega) q1 q2 q3
  · have e : ¬ (w : Int) < 4 := of_decide_eq_false e
    refine hQ false ⟨fun q => (by cases q), ?_⟩
    rintro ⟨w', n, i, x, q1, q2, q3, q4, q5, q6⟩
    exact absurd ⟨q5, q6⟩ (hI w' n i x (by omega) q2 q3 q4)
end

end Go.Mx

namespace Go.Mx

theorem New.pre {h0 h : Heap} {k : Kd} {s : Sl} {xs ys : List (Den k)} (o : New h0 h k s (xs ++ ys)) {n sz : Nat} (e : xs.length = n) : New h0 h k (s.cut 0 n sz) xs := by
  rw [cut_zero]
  have hl := o.len
  rw [List.length_append] at hl
  refine ⟨?_, e, o.le, fun b hb => o.new b hb⟩
  rcases o.own with ⟨rfl, e2⟩ | ⟨b, e1, e2, e3, z, e4, e5⟩
  · have := List.append_eq_nil_iff.1 e2
    obtain ⟨rfl, _⟩ := this
    subst e
    exact .inl ⟨rfl, rfl⟩
  · rw [List.length_append] at e2 e3 e4
    refine .inr ⟨b, e1, by dsimp only; omega, by dsimp only; omega, ys.flatMap k.cells ++ z, ?_, ?_⟩
    · rw [List.length_append, flat_len, e4, ← Nat.add_mul]
      congr 1
      dsimp only
      omega
    · rw [e5, List.flatMap_append, List.append_assoc]

section
variable {h0 h : Heap} {b m : Nat} {calls : Sl} {most : Int} {by' : Fin 4 → Sl} {o : Sl} {cs : List Cl} {ml : List (Den kt4 × Int)} {os : List Int} (r : SrR h0 h b m calls most by' o cs ml os)
include r
theorem SrR.moved {h' : Heap} {o' : Sl} {ml' : List (Den kt4 × Int)} {os' : List Int} (st : Step (fpQ b m o) (fpQ b m o') h h') (q1 : Obj h' b khistsearch (calls, (most, (by', (some m, (o', ())))))) (q2 : MapIs h' m kt4 ki ml') (q3 : New h0 h' ki o' os')
    (q4 : ¬ blkOf o' b) (q5 : ¬ blkOf o' m) : SrR h0 h' b m calls most by' o' cs ml' os' :=
  ⟨q1, q2, q3, r.ne, r.nb, r.nm, q4, q5, r.cal.keep (by decide) st, fun w hw => (r.bys w hw).keep (by decide) st⟩
theorem SrR.put {h' : Heap} {ml' : List (Den kt4 × Int)} (q1 : MapIs h' m kt4 ki ml') (q2 : ∀ c, c ≠ m → h' c = h c) : SrR h0 h' b m calls most by' o cs ml' os ∧ Step (fpQ b m o) (fpQ b m o) h h' := by
  have x : Ext (· = m) h h' := ⟨fun x y e hn => by rw [q2 x hn]; exact e, fun x e => by
    by_cases c : x = m
    · subst c
      obtain ⟨es, k, e1, _⟩ := q1
      rw [e1] at e; cases e
    · rw [← q2 x c]; exact e⟩
  have st : Step (fpQ b m o) (fpQ b m o) h h' := ⟨x.mono fun x q => .inr (.inl q), fun x q => .inl q⟩
  have f : ∀ x, x = m → h0 x = none := fun x q => by subst q; exact r.nm
  exact ⟨r.moved st (r.obj.ext x (fun e => r.ne e.symm)) q1 (r.ord.ext x (fun x p q => by subst q; exact r.om p) f) r.ob r.om, st⟩
theorem SrR.setO {h' : Heap} {o' : Sl} {os' : List Int} (q1 : Obj h' b khistsearch (calls, (most, (by', (some m, (o', ())))))) (q3 : New h0 h' ki o' os') (x : Ext (fun x => x = b ∨ blkOf o x) h h') (q4 : ∀ x, blkOf o' x → blkOf o x ∨ h x = none) :
    SrR h0 h' b m calls most by' o' cs ml os' ∧ Step (fpQ b m o) (fpQ b m o') h h' := by
  have st : Step (fpQ b m o) (fpQ b m o') h h' := by
    refine ⟨x.mono fun x q => ?_, fun x q => ?_⟩
    · rcases q with q | q
      · exact .inl q
      · exact .inr (.inr q)
    · rcases q with q | q | q
      · exact .inl (.inl q)
      · exact .inl (.inr (.inl q))
      · rcases q4 x q with c | c
        · exact .inl (.inr (.inr c))
        · exact .inr c
  have lm : h m ≠ none := r.live (.inr (.inl rfl))
  refine ⟨r.moved st q1 ?_ q3 (fun q => ?_) (fun q => ?_), st⟩
  · obtain ⟨es, c, e, f⟩ := r.map
    refine ⟨es, c, x.1 m _ e (fun q => ?_), f⟩
    rcases q with q | q
    · exact r.ne q
    · exact r.om q
  · rcases q4 b q with c | c
    · exact r.ob c
    · exact r.obj.live c
  · rcases q4 m q with c | c
    · exact r.om c
    · exact lm c
/-- A call's number joins the order. -/
theorem SrR.push {i : Int} (hl : os.length ≤ 1000) {K : Heap → Prop} (hK : ∀ o' h', SrR h0 h' b m calls most by' o' cs ml (os ++ [i]) → Step (fpQ b m o) (fpQ b m o') h h' → K h') :
    ld .sl h ((ptr b).add 7) fun t34 => new h ([i].flatMap (Kd.cells ki)) fun p35 h36 => appendM 1 8 h36 t34 ⟨some p35, 1, 1⟩ fun t37 h38 => deref (some (ptr b)) fun a39 => Go.Mx.st .sl h38 (a39.add 7) t37 K := by
  have hol := r.ord.len
  refine r.ld7 (r.ord.app3 rfl rfl (by omega) fun t h2 n2 x2 b2 => ?_)
  have q2 : Obj h2 b khistsearch (calls, (most, (by', (some m, (o, ()))))) := r.obj.ext x2 r.ob
  show Go.Mx.st .sl h2 ((ptr b).add 7) t K
  refine q2.st (kf := .sl) (off := 7) (v := t) (x' := (calls, (most, (by', (some m, (t, ())))))) rfl (by decide) rfl fun h3 q3 x3 => ?_
  have bt : ¬ blkOf t b := fun q => by
    rcases b2 b q with c | c
    · exact r.ob c
    · exact r.obj.live c
  obtain ⟨r', s'⟩ := r.setO q3 (n2.ext x3 (fun x p q => by subst q; exact bt p) (fun x q => by subst q; exact r.nb)) ((x2.mono fun x q => .inr q).trans (x3.mono fun x q => .inl q)) b2
  exact hK t h3 r' s'
/-- .. and leaves it. -/
theorem SrR.pop {i : Int} {os0 : List Int} (e : os = os0 ++ [i]) (hl : os.length ≤ 1000) {K : Heap → Prop} (hK : ∀ o' h', SrR h0 h' b m calls most by' o' cs ml os0 → Step (fpQ b m o) (fpQ b m o') h h' → K h') :
    ld .sl h ((ptr b).add 7) fun t45 => ld .sl h ((ptr b).add 7) fun t46 => (0 ≤ (w64 ((t46.len : Int) - 1)) ∧ (w64 ((t46.len : Int) - 1)) ≤ (t45.cap : Int)) ∧ deref (some (ptr b)) fun a47 => Go.Mx.st .sl h (a47.add 7) (t45.cut 0 (((w64 ((t46.len : Int) - 1)) : Int).toNat) 1) K := by
  have hol := r.ord.len
  have hcap : o.len ≤ o.cap := r.ord.arr.2.1
  subst e
  rw [List.length_append] at hol hl
  have hol : os0.length + 1 = o.len := hol
  have hl : os0.length + 1 ≤ 1000 := hl
  have w : w64 ((o.len : Int) - 1) = (os0.length : Int) := by rw [w64_of] <;> omega
  refine r.ld7 (r.ld7 ?_)
  rw [w, Int.toNat_natCast]
  refine ⟨⟨by omega, by omega⟩, ?_⟩
  show Go.Mx.st .sl h ((ptr b).add 7) (o.cut 0 os0.length 1) K
  have n0 := r.ord.pre (n := os0.length) (sz := 1) rfl
  refine r.obj.st (kf := .sl) (off := 7) (v := o.cut 0 os0.length 1) (x' := (calls, (most, (by', (some m, (o.cut 0 os0.length 1, ())))))) rfl (by decide) rfl fun h3 q3 x3 => ?_
  have bc : ∀ x, blkOf (o.cut 0 os0.length 1) x → blkOf o x := fun x q => by rw [cut_zero] at q; exact q
  obtain ⟨r', s'⟩ := r.setO q3 (n0.ext x3 (fun x p q => by subst q; exact r.ob (bc _ p)) (fun x q => by subst q; exact r.nb)) (x3.mono fun x q => .inl q) (fun x q => .inl (bc x q))
  exact hK _ h3 r' s'
end

theorem from_spec {h0 : Heap} {b m : Nat} {calls : Sl} {most : Int} {by' : Fin 4 → Sl} {cs : List Cl} (hH : HistN cs cs.length) (hl : cs.length ≤ 40)
    {F : Option Addr → (Fin 4 → Int) → Sl → Heap → (Bool → Heap → Prop) → Prop} {c1 : Option Addr → (Fin 4 → Int) → Heap → (Bool → Heap → Prop) → Prop} {c2 : Sl → Cl → Int → Heap → ((Sl × (Bool × Unit)) → Heap → Prop) → Prop} {c3 : Option Addr → (Fin 4 → Int) → Cl → Heap → (Bool → Heap → Prop) → Prop}
    (i1 : ∀ {a t h Q}, hist_search_done.M a t h Q → c1 a t h Q) (i2 : ∀ {a b c h Q}, hist_row_does.M a b c h Q → c2 a b c h Q) (i3 : ∀ {a t c h Q}, hist_search_waits.M a t c h Q → c3 a t c h Q) (iF : ∀ {a t s h Q}, hist_search_from.M c1 c2 c3 F a t s h Q → F a t s h Q) :
    ∀ (n : Nat) {h : Heap} {o : Sl} {ml : List (Den kt4 × Int)} {os : List Int} {t : Nat → Nat} {xs : List Int} {held : Sl} {Q : Bool → Heap → Prop}, cs.length - sum4 t ≤ n → SrR h0 h b m calls most by' o cs ml os → os.length = sum4 t → Rch cs most t xs → Calm h b m o ki held xs →
      (∀ t', Met ml t' → sum4 t ≤ sum4 t' → Dead cs most t') →
      (∀ h' o' ml' is t' xs', SrR h0 h' b m calls most by' o' cs ml' (os ++ iL is) → Step (fpQ b m o) (fpQ b m o') h h' → Way cs most t xs is t' xs' → DoneS cs t' → Q true h') →
      (∀ h' o' ml', SrR h0 h' b m calls most by' o' cs ml' os → Step (fpQ b m o) (fpQ b m o') h h' → ¬ LiveS cs most t xs → (∀ t', Met ml' t' → Met ml t' ∨ Dead cs most t') → Q false h') →
      F (some (ptr b)) (tk t) held h Q := by
  intro n
  induction n using Nat.strongRecOn with
  | _ n ih =>
  intro h o ml os t xs held Q hn r hos hR hheld hmet hT hF
  obtain ⟨hsum, hfit⟩ := hR.fits
  have hxl := hR.len
  refine iF (i1 (done_spec r hfit hl fun d hd => ⟨fun e => ?_, fun e => ?_⟩))
  · exact hT h o ml [] t xs (by rw [show iL [] = [] from rfl, List.append_nil]; exact r) (.refl _ _) (.nil _ _) (hd.1 e)
  have hnd : ¬ DoneS cs t := fun q => by rw [hd.2 q] at e; cases e
  clear e hd
  refine r.ld6 ⟨ml, r.map, ⟨fun e => ?_, fun e => ?_⟩⟩
  · have e' := of_decide_eq_true e
    have e : Met ml t := e'
    exact hF h o ml r (.refl _ _) (hmet t e (Nat.le_refl _) xs hR) fun t' q => .inl q
  clear e
  refine r.ld6 ⟨ml, r.map, fun h1 hm1 hm2 => ?_⟩
  obtain ⟨r1, s1⟩ := r.put hm1 hm2
  have held1 := hheld.keep (by decide) s1
  refine r1.ld2 ?_
  refine Loop.up 4 (fun s => s.1) (fun w s k => ∃ o' ml', SrR h0 k b m calls most by' o' cs ml' os ∧ Step (fpQ b m o) (fpQ b m o') h k ∧ Calm k b m o' ki held xs ∧ (∀ t', Met ml' t' → Met ml t' ∨ tk t' = tk t ∨ Dead cs most t') ∧
    ∀ w' i c, w' < w → Sx cs most t xs w' i c → ¬ LiveS cs most (bump t w') (doL xs c most).1) rfl ⟨o, _, r1, s1, held1, fun t' q => ?_, fun w' i c hw => absurd hw (Nat.not_lt_zero _)⟩ ?_
  · rcases (met_put ml t t').1 q with c | c
    · exact .inr (.inl c)
    · exact .inl c
  rintro w ⟨w', u⟩ k go hw hc ⟨o', ml', r2, s2, held2, hm, hdead⟩ hgo
  dsimp only at hc; subst hc
  refine ⟨fun e => ?_, fun e => ?_⟩
  · have e : (w : Int) < 4 := of_decide_eq_true e
    have hw4 : w < 4 := by omega
    have hb4 : (0 : Int) ≤ (w : Int) ∧ (w : Int) < (4 : Int) := by omega
    have hby := r2.bys w hw4
    have hlen : (iL (byL cs w)).length = (aget (n := 4) (a := .sl) by' w).len := hby.arr.1
    have hlen' : (byL cs w).length = (aget (n := 4) (a := .sl) by' w).len := by rw [← hlen]; simp [iL]
    have hfw := hfit w
    have hbl := byL_len cs w
    dsimp only
    rw [Int.toNat_natCast, tk_at t hw4]
    -- on to the next actor
    have next : ∀ {k' : Heap} {o'' : Sl} {ml''}, SrR h0 k' b m calls most by' o'' cs ml'' os → Step (fpQ b m o) (fpQ b m o'') h k' → Calm k' b m o'' ki held xs → (∀ t', Met ml'' t' → Met ml t' ∨ tk t' = tk t ∨ Dead cs most t') →
        (∀ i c, Sx cs most t xs w i c → ¬ LiveS cs most (bump t w) (doL xs c most).1) → hist_search_from.j1 go ((w : Int), u) () k' := fun {k' o'' ml''} a1 a2 a3 a4 a5 => by
      refine hgo hw4 _ _ (by show w64 ((w : Int) + 1) = _; rw [w64_of] <;> omega) ⟨o'', ml'', a1, a2, a3, a4, fun w' i c hw' hs => ?_⟩
      by_cases q : w' = w
      · subst q; exact a5 i c hs
      · exact hdead w' i c (by omega) hs
    refine ⟨hb4, hb4, ⟨fun f => ?_, fun f => ?_⟩⟩
    · have f : ((aget (n := 4) (a := .sl) by' w).len : Int) ≤ (t w : Int) := of_decide_eq_true f
      exact next r2 s2 held2 hm fun i c hs => by
        have := (List.getElem?_eq_some_iff.1 hs.2.1).1
        omega
    · have f : ¬ ((aget (n := 4) (a := .sl) by' w).len : Int) ≤ (t w : Int) := of_decide_eq_false f
      have hbt : (0 : Int) ≤ (t w : Int) ∧ (t w : Int) < ((aget (n := 4) (a := .sl) by' w).len : Int) := by omega
      refine ⟨hb4, hbt, hby.arr.at hbt.1 hbt.2 rfl fun v hv => ?_⟩
      rw [Int.toNat_natCast] at hv
      obtain ⟨i, hi, rfl⟩ := iL_at.1 hv
      obtain ⟨c, hc, _⟩ := byL_at hi
      have hil := (List.getElem?_eq_some_iff.1 hc).1
      have hcl : cs.length = calls.len := r2.cal.arr.1
      have hbi : (0 : Int) ≤ (i : Int) ∧ (i : Int) < (calls.len : Int) := by omega
      refine r2.ld0 ⟨hbi, r2.cal.arr.at hbi.1 hbi.2 rfl fun c' hc' => ?_⟩
      rw [Int.toNat_natCast, hc] at hc'; cases hc'
      have hsnd := (hH i c hil hc).1
      obtain ⟨dd1, dd2⟩ := does_do2 xs c most hsnd
      have hhl := held2.arr.1
      refine r2.ld1 (i2 (does_spec held2.arr (by omega) fun l b' s h3 hdo harr hle hfr => ?_))
      have r3 := r2.more hle
      have held3 : Calm h3 b m o' ki held xs := ⟨held2.arr.le hle, held2.off⟩
      have s3 : Step (fpQ b m o) (fpQ b m o') h h3 := s2.trans ⟨hle.toExt, fun x q => .inl q⟩
      rw [hdo] at dd1 dd2
      dsimp only at dd1 dd2
      refine ⟨fun g => ?_, fun g => ?_⟩
      · have g : b' = false := by simpa using g
        refine ⟨fun _ => next r3 s3 held3 hm fun i' c' hs => ?_, fun q => (by cases q)⟩
        obtain ⟨_, q2, q3, q4, _⟩ := hs
        rw [hi] at q2; cases q2
        rw [hc] at q3; cases q3
        rw [← dd1, g] at q4; cases q4
      · have g : b' = true := by simpa using g
        refine i3 (waits_spec r3 hfit hl c fun d hd => ⟨fun q => ?_, fun q => ?_⟩)
        · refine next r3 s3 held3 hm fun i' c' hs => ?_
          obtain ⟨_, q2, q3, q4, q5⟩ := hs
          rw [hi] at q2; cases q2
          rw [hc] at q3; cases q3
          exact absurd (hd.1 q) q5
        · have q : d = false := q
          have sx : Sx cs most t xs w i c := ⟨hw4, hi, hc, by rw [← dd1]; exact g, fun hw => by rw [hd.2 hw] at q; cases q⟩
          have hrow : l = (doL xs c most).1 := dd2 (by rw [← dd1]; exact g)
          have hR2 := hR.step sx
          have hs2 := sum4_bump (t := t) hw4
          have hsum2 := hR2.fits.1
          -- the call is taken
          refine r3.push (by omega) fun o4 h4 r4 s4 => ?_
          have newc : Calm h3 b m o' ki s l := ⟨harr, fun _ x p q => r2.live q (hfr x p)⟩
          have newc4 := newc.keep (by decide) s4
          rw [hrow] at newc4
          have held4 := held3.keep (by decide) s4
          refine ⟨hb4, hb4, ?_⟩
          show F (some (ptr b)) (aset (n := 4) (a := ki) (tk t) ((w : Int)).toNat (w64 (aget (n := 4) (a := ki) (tk t) ((w : Int)).toNat + 1))) s h4 _
          rw [Int.toNat_natCast, tk_bump t hw4 (by omega)]
          refine ih (cs.length - sum4 (bump t w)) (by omega) (Nat.le_refl _) r4 (by rw [List.length_append, hos, hs2]; rfl) hR2 newc4 (fun t' q hle => ?_) (fun h5 o5 ml5 is t' xs' r5 s5 hW hD => ?_) (fun h5 o5 ml5 r5 s5 hnl hm5 => ?_)
          · rcases hm t' q with c | c | c
            · exact hmet t' c (by omega)
            · have : sum4 t' = sum4 t := by
                unfold sum4
                rw [tk_inj c (by decide : 0 < 4), tk_inj c (by decide : 1 < 4), tk_inj c (by decide : 2 < 4), tk_inj c (by decide : 3 < 4)]
              omega
            · exact c
          · refine ⟨fun _ => hT h5 o5 ml5 (i :: is) t' xs' ?_ ((s3.trans s4).trans s5) (.cons sx hW) hD, fun q => (by cases q)⟩
            rw [List.append_assoc] at r5
            exact r5
          · refine ⟨fun q => (by cases q), fun _ => ?_⟩
            refine r5.pop rfl (by rw [List.length_append, hos]; show sum4 t + 1 ≤ 1000; omega) fun o6 h6 r6 s6 => ?_
            have held6 := (held4.keep (by decide) s5).keep (by decide) s6
            refine next r6 (((s3.trans s4).trans s5).trans s6) held6 (fun t' q => ?_) fun i' c' hs => ?_
            · rcases hm5 t' q with c | c
              · exact hm t' c
              · exact .inr (.inr c)
            · obtain ⟨_, q2, q3, _⟩ := hs
              rw [hi] at q2; cases q2
              rw [hc] at q3; cases q3
              exact hnl
  · have e : ¬ (w : Int) < 4 := of_decide_eq_false e
    have hnl : ¬ LiveS cs most t xs := by
      rintro ⟨is, t', xs', hW, hD⟩
      cases hW with
      | nil => exact hnd hD
      | cons hs hW =>
        rename_i w'' i' c' is'
        exact hdead w'' i' c' (by have := hs.1; omega) hs ⟨_, _, _, hW, hD⟩
    refine hF k o' ml' r2 s2 hnl fun t' q => ?_
    rcases hm t' q with c | c | c
    · exact .inl c
    · refine .inr fun xs' hR' => ?_
      obtain rfl := hR'.same hR c
      obtain rfl := hR.one hH hR'
      exact hnl
    · exact .inr c

end Go.Mx

namespace Go.Mx

def HasO (cs : List Cl) (most : Int) : Prop := ∃ os, LegalL cs most os
/-- The error that Order tells. -/
def ErrO (cs : List Cl) (most : Int) (e : Int) : Prop :=
  (40 < cs.length ∧ e = 2) ∨ (¬ 40 < cs.length ∧ ¬ (1 ≤ most ∧ most ≤ 4096) ∧ e = 3) ∨ (¬ 40 < cs.length ∧ (1 ≤ most ∧ most ≤ 4096) ∧ ¬ HistN cs cs.length ∧ e = 40) ∨
  (¬ 40 < cs.length ∧ (1 ≤ most ∧ most ≤ 4096) ∧ HistN cs cs.length ∧ ¬ HasO cs most ∧ e = 41) ∨ (¬ 40 < cs.length ∧ (1 ≤ most ∧ most ≤ 4096) ∧ HistN cs cs.length ∧ HasO cs most ∧ e = 0)
theorem ErrO.one {cs : List Cl} {most e e' : Int} (a : ErrO cs most e) (b : ErrO cs most e') : e = e' := by
  rcases a with ⟨a1, a2⟩ | ⟨a1, a2, a3⟩ | ⟨a1, a2, a3, a4⟩ | ⟨a1, a2, a3, a4, a5⟩ | ⟨a1, a2, a3, a4, a5⟩ <;> rcases b with ⟨b1, b2⟩ | ⟨b1, b2, b3⟩ | ⟨b1, b2, b3, b4⟩ | ⟨b1, b2, b3, b4, b5⟩ | ⟨b1, b2, b3, b4, b5⟩ <;>
    first | (subst_vars; rfl) | contradiction
def OrdR (cs : List Cl) (most : Int) (e : Int) (os : List Int) : Prop := ErrO cs most e ∧ (e ≠ 0 → os = []) ∧ (e = 0 → OkL cs most os)

theorem hs_part {calls : Sl} {most : Int} {by' : Fin 4 → Sl} {m : Option Nat} {o : Sl} {w : Nat} (hw : w < 4) : PartAt khistsearch .sl (2 + w) (calls, (most, (by', (m, (o, ()))))) (aget (n := 4) (a := .sl) by' w) := by
  have : w = 0 ∨ w = 1 ∨ w = 2 ∨ w = 3 := by omega
  rcases this with rfl | rfl | rfl | rfl
  · exact ⟨[calls.val, .int .i64 most], [(by' 1).val, (by' 2).val, (by' 3).val, .map m, o.val], rfl, rfl⟩
  · exact ⟨[calls.val, .int .i64 most, (by' 0).val], [(by' 2).val, (by' 3).val, .map m, o.val], rfl, rfl⟩
  · exact ⟨[calls.val, .int .i64 most, (by' 0).val, (by' 1).val], [(by' 3).val, .map m, o.val], rfl, rfl⟩
  · exact ⟨[calls.val, .int .i64 most, (by' 0).val, (by' 1).val, (by' 2).val], [.map m, o.val], rfl, rfl⟩
theorem hs_set {calls : Sl} {most : Int} {by' : Fin 4 → Sl} {m : Option Nat} {o : Sl} {w : Nat} (hw : w < 4) (s : Sl) :
    Kd.cells khistsearch (calls, (most, (aset (n := 4) (a := .sl) by' w s, (m, (o, ()))))) = splice (Kd.cells khistsearch (calls, (most, (by', (m, (o, ())))))) (2 + w) (Kd.cells .sl s) := by
  have : w = 0 ∨ w = 1 ∨ w = 2 ∨ w = 3 := by omega
  rcases this with rfl | rfl | rfl | rfl <;> rfl
theorem aget_set4 {by' : Fin 4 → Sl} {w v : Nat} (hv : v < 4) (s : Sl) : aget (n := 4) (a := .sl) (aset (n := 4) (a := .sl) by' w s) v = if v = w then s else aget (n := 4) (a := .sl) by' v := by
  unfold aget aset
  rw [dif_pos hv, dif_pos hv]

theorem clonei_spec {s : Sl} {h : Heap} {xs : List Int} (ha : Arr h ki s xs) (hn : s.len ≤ 2097152) {Q : Sl → Heap → Prop} (hQ : ∀ r h', New h h' ki r xs → Q r h') : slices_Clone_int_int.M s h Q := by
  refine ⟨fun e => ?_, fun e => ?_⟩
  · obtain ⟨a, n, c⟩ := s
    cases a with
    | some a => cases e
    | none =>
      have h1 : xs.length = n := ha.1
      have h2 : n = 0 := ha.2.2
      have : xs = [] := List.length_eq_zero_iff.1 (by omega)
      subst this
      exact hQ _ h (New.nil h ki)
  · refine New.mk0 fun p h4 n4 => ?_
    refine n4.apps (ha.le n4.le) rfl rfl (by show (0 + s.len) * 8 ≤ _; omega) fun t h6 n6 => ?_
    rw [List.nil_append] at n6
    exact hQ t h6 n6

structure BuR (h0 h : Heap) (b m : Nat) (calls : Sl) (most : Int) (by' : Fin 4 → Sl) (cs : List Cl) (n : Nat) : Prop where
  obj : Obj h b khistsearch (calls, (most, (by', (some m, (Sl.none, ())))))
  map : MapIs h m kt4 ki []
  rows : ∀ w, w < 4 → New h0 h ki (aget (n := 4) (a := .sl) by' w) (iL (byN cs n w))
  sep : ∀ w v, w < 4 → v < 4 → w ≠ v → Apart (aget (n := 4) (a := .sl) by' w) (aget (n := 4) (a := .sl) by' v)
  ne : m ≠ b
  nb : h0 b = none
  nm : h0 m = none
  ob : ∀ w, w < 4 → ¬ blkOf (aget (n := 4) (a := .sl) by' w) b ∧ ¬ blkOf (aget (n := 4) (a := .sl) by' w) m

theorem horder_spec {calls : Sl} {most : Int} {h : Heap} {cs : List Cl} (ha : Arr h kapiCall calls cs) (hn : calls.len ≤ 2097152)
    {c1 : Int → Heap → (Bool → Heap → Prop) → Prop} {c2 : Sl → Heap → (Bool → Heap → Prop) → Prop} {c4 : Sl → Heap → (Sl → Heap → Prop) → Prop}
    {F : Option Addr → (Fin 4 → Int) → Sl → Heap → (Bool → Heap → Prop) → Prop} {d1 : Option Addr → (Fin 4 → Int) → Heap → (Bool → Heap → Prop) → Prop} {d2 : Sl → Cl → Int → Heap → ((Sl × (Bool × Unit)) → Heap → Prop) → Prop} {d3 : Option Addr → (Fin 4 → Int) → Cl → Heap → (Bool → Heap → Prop) → Prop}
    (i1 : ∀ {a h Q}, hist_goodMost.M a h Q → c1 a h Q) (i2 : ∀ {l : Sl} {h Q} {us : List Cl}, Arr h kapiCall l us → l.len ≤ 2097152 → (∀ b : Bool, (b = true ↔ HistN us us.length) → Q b h) → c2 l h Q) (i4 : ∀ {a h Q}, slices_Clone_int_int.M a h Q → c4 a h Q)
    (j1 : ∀ {a t h Q}, hist_search_done.M a t h Q → d1 a t h Q) (j2 : ∀ {a b c h Q}, hist_row_does.M a b c h Q → d2 a b c h Q) (j3 : ∀ {a t c h Q}, hist_search_waits.M a t c h Q → d3 a t c h Q) (jF : ∀ {a t s h Q}, hist_search_from.M d1 d2 d3 F a t s h Q → F a t s h Q)
    {Q : (Sl × (Int × Unit)) → Heap → Prop} (hQ : ∀ r e os h', OrdR cs most e os → New h h' ki r os → Q (r, (e, ())) h') : hist_Order.M c1 c2 F c4 calls most h Q := by
  have hl : calls.len = cs.length := ha.1.symm
  have no : ∀ e, e ≠ 0 → ErrO cs most e → Q (⟨none, 0, 0⟩, (e, ())) h := fun e h0 h1 => hQ _ e [] h ⟨h1, fun _ => rfl, fun q => absurd q h0⟩ (New.nil h ki)
  refine ⟨fun e => ?_, fun e => ?_⟩
  · have e : (40 : Int) < (calls.len : Int) := of_decide_eq_true e
    exact no 2 (by decide) (.inl ⟨by omega, rfl⟩)
  have e : ¬ (40 : Int) < (calls.len : Int) := of_decide_eq_false e
  have e40 : ¬ 40 < cs.length := by omega
  refine i1 (good_spec ⟨fun g => ?_, fun g => ?_⟩)
  · have g : ¬ (1 ≤ most ∧ most ≤ 4096) := fun q => by rw [decide_eq_true q] at g; cases g
    exact no 3 (by decide) (.inr (.inl ⟨e40, g, rfl⟩))
  have g : 1 ≤ most ∧ most ≤ 4096 := Decidable.byContradiction fun q => by rw [decide_eq_false q] at g; cases g
  refine i2 ha hn fun bb hb => ⟨fun r => ?_, fun r => ?_⟩
  · exact no 40 (by decide) (.inr (.inr (.inl ⟨e40, g, fun q => (by rw [hb.2 q] at r; cases r), rfl⟩)))
  have hH : HistN cs cs.length := hb.1 (by cases bb <;> first | rfl | cases r)
  clear r hb
  -- the object
  intro m hm
  have hle1 := le_upd hm (.map #[] 0)
  refine Obj.new fun b h2 hbn ob hle2 => ?_
  have hbm : m ≠ b := fun q => by subst q; rw [upd_same] at hbn; cases hbn
  have hb0 : h b = none := hle1.none hbn
  have hm2 : MapIs h2 m kt4 ki [] := ⟨#[], 0, hle2 m _ (upd_same _ _ _), rfl⟩
  have nn : ∀ k : Kd, New h h2 k Sl.none [] := fun k => ⟨Own.nil _ _, rfl, hle1.trans hle2, fun x hx => by obtain ⟨a, e, _⟩ := hx; cases e⟩
  have noblk : ∀ {x : Nat}, ¬ blkOf Sl.none x := fun {x} hx => by obtain ⟨a, e, _⟩ := hx; cases e
  have an : ∀ w, w < 4 → aget (n := 4) (a := .sl) (fun _ => Sl.none) w = Sl.none := fun w hw => by unfold aget; rw [dif_pos hw]
  refine Loop.up cs.length (fun s => s.1) (fun n s k => ∃ by', BuR h k b m calls most by' cs n) rfl ⟨fun _ => Sl.none, ob, hm2, fun w hw => ?_, fun w v hw hv _ x p => ?_, hbm, hb0, hm, fun w hw => ?_⟩ ?_
  · rw [an w hw]; exact nn ki
  · rw [an w hw] at p; exact absurd p noblk
  · rw [an w hw]; exact ⟨noblk, noblk⟩
  rintro n ⟨n', u⟩ k go hnn hc ⟨by', R⟩ hgo
  dsimp only at hc; subst hc
  have hlek : le h k := (R.rows 0 (by decide)).le
  refine ⟨fun f => ?_, fun f => ?_⟩
  · have f : (n : Int) < (calls.len : Int) := of_decide_eq_true f
    have hnl : n < cs.length := by omega
    have hbn' : (0 : Int) ≤ (n : Int) := by omega
    refine ⟨⟨hbn', f⟩, (ha.le hlek).at hbn' f rfl fun c hc => ?_⟩
    rw [Int.toNat_natCast] at hc
    obtain ⟨_, _, s3, s4, _⟩ := sound_at hH hc
    obtain ⟨w, hw⟩ : ∃ w : Nat, cWho c = (w : Int) := ⟨(cWho c).toNat, by omega⟩
    have hw4 : w < 4 := by omega
    have hw' : c.1 = (w : Int) := hw
    rw [hw']
    have hb4 : (0 : Int) ≤ (w : Int) ∧ (w : Int) < (4 : Int) := by omega
    have row := R.rows w hw4
    have hrl := row.len
    have hrl2 : (iL (byN cs n w)).length ≤ n := by
      unfold iL byN
      rw [List.length_map]
      have := List.length_filter_le (isBy cs w) (List.range n)
      rwa [List.length_range] at this
    refine ⟨hb4, ?_⟩
    rw [add_add', Int.toNat_natCast, Nat.mul_one]
    refine R.obj.ld (kf := .sl) (hs_part hw4) (row.app3 rfl rfl (by omega) fun t h3 n3 x3 b3 => ⟨hb4, ?_⟩)
    have ob3 := R.obj.ext x3 (R.ob w hw4).1
    refine ob3.st (kf := .sl) (off := 2 + w) (v := t) (x' := (calls, (most, (aset (n := 4) (a := .sl) by' w t, (some m, (Sl.none, ())))))) (hs_set hw4 t) (by show 2 + w + 1 ≤ 8; omega) rfl fun h4 ob4 x4 => ?_
    refine hgo hnl _ _ (by show w64 ((n : Int) + 1) = _; rw [w64_of] <;> omega) ⟨_, ob4, ?_, fun v hv => ?_, fun v v' hv hv' hne => ?_, R.ne, R.nb, R.nm, fun v hv => ?_⟩
    · obtain ⟨es, c', q1, q2⟩ := R.map
      refine ⟨es, c', x4.1 m _ (x3.1 m _ q1 (R.ob w hw4).2) R.ne, q2⟩
    · rw [aget_set4 hv]
      have fb : ∀ x, x = b → h x = none := fun x q => by subst q; exact R.nb
      have hbyn : byN cs (n + 1) v = byN cs n v ++ if v = w then [n] else [] := by
        rw [byN_succ]
        congr 1
        have : isBy cs v n = decide (v = w) := by
          unfold isBy
          rw [hc]
          dsimp only
          by_cases q : v = w
          · subst q; rw [hw]; simp
          · rw [hw, decide_eq_false (by omega), decide_eq_false q]
        rw [this]
        by_cases q : v = w <;> simp [q]
      by_cases q : v = w
      · rw [if_pos q, hbyn, if_pos q, q]
        have bt : ¬ blkOf t b := fun p => by
          rcases b3 b p with d | d
          · exact (R.ob w hw4).1 d
          · exact R.obj.live d
        have := n3.ext x4 (fun x p r => by subst r; exact bt p) fb
        unfold iL
        rw [List.map_append]
        exact this
      · rw [if_neg q, hbyn, if_neg q, List.append_nil]
        exact ((R.rows v hv).ext x3 (fun x p r => R.sep v w hv hw4 q x p r) row.new).ext x4 (fun x p r => by subst r; exact (R.ob v hv).1 p) fb
    · rw [aget_set4 hv, aget_set4 hv']
      have apart : ∀ v, v < 4 → v ≠ w → Apart t (aget (n := 4) (a := .sl) by' v) := fun v hv hne x p r => by
        rcases b3 x p with d | d
        · exact R.sep w v hw4 hv (fun e => hne e.symm) x d r
        · exact (R.rows v hv).own.live x r d
      by_cases q : v = w
      · rw [if_pos q, if_neg (by omega)]
        exact apart v' hv' (by omega)
      · rw [if_neg q]
        by_cases q' : v' = w
        · rw [if_pos q']
          exact (apart v hv q).symm
        · rw [if_neg q']
          exact R.sep v v' hv hv' hne
    · rw [aget_set4 hv]
      by_cases q : v = w
      · rw [if_pos q]
        refine ⟨fun p => ?_, fun p => ?_⟩
        · rcases b3 b p with d | d
          · exact (R.ob w hw4).1 d
          · exact R.obj.live d
        · rcases b3 m p with d | d
          · exact (R.ob w hw4).2 d
          · obtain ⟨es, c', q1, q2⟩ := R.map
            rw [q1] at d; cases d
      · rw [if_neg q]
        exact R.ob v hv
  · have f : ¬ (n : Int) < (calls.len : Int) := of_decide_eq_false f
    obtain rfl : n = cs.length := by omega
    have hwhole : SrR h k b m calls most by' ⟨none, 0, 0⟩ cs [] [] := by
      refine ⟨R.obj, R.map, ⟨Own.nil _ _, rfl, hlek, fun x hx => absurd hx noblk⟩, R.ne, R.nb, R.nm, noblk, noblk, ⟨ha.le hlek, fun hx x p q => ?_⟩, fun w hw => ⟨(R.rows w hw).arr, fun hx x p q => ?_⟩⟩
      · have hlive := ha.lives hx (by decide) p
        rcases q with q | q | q
        · subst q; exact hlive R.nb
        · subst q; exact hlive R.nm
        · exact noblk q
      · rcases q with q | q | q
        · subst q; exact (R.ob w hw).1 p
        · subst q; exact (R.ob w hw).2 p
        · exact noblk q
    refine from_spec (F := F) hH (by omega) j1 j2 j3 jF (cs.length - sum4 z4) (t := z4) (xs := []) (os := []) (Nat.le_refl _) hwhole rfl ⟨[], .nil _ _⟩ ⟨⟨rfl, Nat.le_refl _, rfl⟩, fun q => absurd rfl q⟩ (fun t' q => ?_) (fun h5 o5 ml5 is t' xs' r5 s5 hW hD => ?_) (fun h5 o5 ml5 r5 s5 hnl hm5 => ?_)
    · exact absurd q (by unfold Met getL fi; decide)
    · refine ⟨fun q => (by cases q), fun _ => r5.ld7 (i4 ?_)⟩
      have hol := r5.ord.len
      have hfit := hW.fits
      have h1 := hfit.sum
      have h2 := hfit.len
      rw [List.nil_append] at hol
      have h3 : (iL is).length = is.length := by simp [iL]
      have harr := r5.ord.arr
      rw [List.nil_append] at harr
      refine clonei_spec harr (by omega) fun r h6 n6 => ?_
      have hok : OkL cs most (iL is) := ⟨e40, g, hH, hW.legal hH hD⟩
      exact hQ r 0 (iL is) h6 ⟨.inr (.inr (.inr (.inr ⟨e40, g, hH, ⟨_, hok.2.2.2⟩, rfl⟩))), fun q => absurd rfl q, fun _ => hok⟩ (n6.base r5.le)
    · refine ⟨fun _ => hQ _ 41 [] h5 ⟨.inr (.inr (.inr (.inl ⟨e40, g, hH, fun q => ?_, rfl⟩))), fun _ => rfl, fun q => (by cases q)⟩ ⟨Own.nil _ _, rfl, r5.le, fun x hx => absurd hx noblk⟩, fun q => (by cases q)⟩
      obtain ⟨os, hL⟩ := q
      obtain ⟨is, t, xs, _, hW, hD⟩ := legal_way hH hL
      exact hnl ⟨is, t, xs, hW, hD⟩

end Go.Mx
