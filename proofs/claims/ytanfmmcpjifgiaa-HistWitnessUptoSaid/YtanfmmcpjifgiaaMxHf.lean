/-
  The reference's search, level by level.
-/
import Derived.Test.YtanfmmcpjifgiaaMxHk
set_option linter.unusedVariables false
set_option linter.unusedSimpArgs false
namespace Go.Mx

/-- A loop whose rounds are counted by what holds. -/
theorem Loop.idx {σ : Type} {body : (σ → Heap → Prop) → σ → Heap → Prop} (N : Nat) (I : Nat → σ → Heap → Prop) {s : σ} {h : Heap} (h1 : I 0 s h)
    (hb : ∀ n s h go, n ≤ N → I n s h → (n < N → ∀ s' h', I (n + 1) s' h' → go s' h') → body go s h) : Loop body s h := by
  classical
  have top : ∀ (P : Nat → Prop), (∃ n, n ≤ N ∧ P n) → ∃ n, n ≤ N ∧ P n ∧ ∀ m, m ≤ N → P m → m ≤ n := by
    intro P
    have key : ∀ k, (∃ n, n ≤ N ∧ P n ∧ N - n ≤ k) → ∃ n, n ≤ N ∧ P n ∧ ∀ m, m ≤ N → P m → m ≤ n := by
      intro k
      induction k with
      | zero => rintro ⟨n, a, b, c⟩; exact ⟨n, a, b, fun m hm _ => by omega⟩
      | succ k ih =>
        rintro ⟨n, a, b, c⟩
        by_cases q : ∃ m, m ≤ N ∧ P m ∧ n < m
        · obtain ⟨m, m1, m2, m3⟩ := q
          exact ih ⟨m, m1, m2, by omega⟩
        · exact ⟨n, a, b, fun m m1 m2 => Nat.le_of_not_lt fun m3 => q ⟨m, m1, m2, m3⟩⟩
    rintro ⟨n, a, b⟩
    exact key N ⟨n, a, b, by omega⟩
  refine ⟨fun s h => ∃ n, n ≤ N ∧ I n s h, fun s h => if q : ∃ n, n ≤ N ∧ I n s h then N - Classical.choose (top (fun n => I n s h) q) else 0, ⟨0, Nat.zero_le _, h1⟩, ?_⟩
  intro s h hs
  have hc := Classical.choose_spec (top (fun n => I n s h) hs)
  refine hb _ s h _ hc.1 hc.2.1 fun hlt s' h' hI => ⟨⟨_, hlt, hI⟩, ?_⟩
  have hs' : ∃ n, n ≤ N ∧ I n s' h' := ⟨_, hlt, hI⟩
  have hc' := Classical.choose_spec (top (fun n => I n s' h') hs')
  have := hc'.2.2 _ hlt hI
  show (if q : ∃ n, n ≤ N ∧ I n s' h' then N - Classical.choose (top (fun n => I n s' h') q) else 0) < (if q : ∃ n, n ≤ N ∧ I n s h then N - Classical.choose (top (fun n => I n s h) q) else 0)
  rw [dif_pos hs', dif_pos hs]
  omega

theorem Way.split {cs : List Cl} {most : Int} : ∀ {as : List Nat} {bs t xs t' xs'}, Way cs most t xs (as ++ bs) t' xs' → ∃ t1 x1, Way cs most t xs as t1 x1 ∧ Way cs most t1 x1 bs t' xs'
  | [], bs, t, xs, t', xs', h => ⟨t, xs, .nil _ _, h⟩
  | a :: as, bs, t, xs, t', xs', h => by
    cases h with
    | cons hs hW =>
      obtain ⟨t1, x1, h1, h2⟩ := hW.split
      exact ⟨t1, x1, .cons hs h1, h2⟩
def RN (cs : List Cl) (most : Int) (n : Nat) (t : Nat → Nat) (xs : List Int) : Prop := ∃ is : List Nat, is.length = n ∧ Way cs most z4 [] is t xs
theorem RN.rch {cs most n t xs} (h : RN cs most n t xs) : Rch cs most t xs := by obtain ⟨is, _, h⟩ := h; exact ⟨is, h⟩
theorem RN.sum {cs most n t xs} (h : RN cs most n t xs) : sum4 t = n := by
  obtain ⟨is, e, h⟩ := h
  rw [← e]; exact h.fits.len.symm
theorem RN.step {cs most n t xs w i c} (h : RN cs most n t xs) (s : Sx cs most t xs w i c) : RN cs most (n + 1) (bump t w) (doL xs c most).1 := by
  obtain ⟨is, e, h⟩ := h
  exact ⟨is ++ [i], by simp [e], h.snoc s⟩
theorem RN.back {cs most n t xs} (h : RN cs most (n + 1) t xs) : ∃ t' xs' w i c, RN cs most n t' xs' ∧ Sx cs most t' xs' w i c ∧ t = bump t' w ∧ xs = (doL xs' c most).1 := by
  obtain ⟨is, e, h⟩ := h
  have : is = is.take n ++ is.drop n := (List.take_append_drop n is).symm
  rw [this] at h
  obtain ⟨t1, x1, h1, h2⟩ := h.split
  have hl : (is.drop n).length = 1 := by rw [List.length_drop]; omega
  obtain ⟨i, hi⟩ := List.length_eq_one_iff.1 hl
  rw [hi] at h2
  cases h2 with
  | cons hs hW =>
    cases hW with
    | nil => exact ⟨t1, x1, _, _, _, ⟨is.take n, by rw [List.length_take]; omega, h1⟩, hs, rfl, rfl⟩
theorem RN.down {cs most k t xs} (h : RN cs most k t xs) {n : Nat} (hn : n ≤ k) : ∃ t' xs', RN cs most n t' xs' := by
  obtain ⟨is, e, h⟩ := h
  rw [← List.take_append_drop n is] at h
  obtain ⟨t1, x1, h1, h2⟩ := h.split
  exact ⟨t1, x1, is.take n, by rw [List.length_take]; omega, h1⟩

theorem byN_pre (cs : List Cl) (w : Nat) : ∀ {m : Nat}, m ≤ cs.length → ∃ r, byL cs w = byN cs m w ++ r := by
  have key : ∀ d m, m + d = cs.length → ∃ r, byL cs w = byN cs m w ++ r := by
    intro d
    induction d with
    | zero => intro m hm; exact ⟨[], by rw [List.append_nil]; unfold byL; rw [← hm]; rfl⟩
    | succ d ih =>
      intro m hm
      obtain ⟨r, hr⟩ := ih (m + 1) (by omega)
      rw [byN_succ, List.append_assoc] at hr
      exact ⟨_, hr⟩
  intro m hm
  exact key (cs.length - m) m (by omega)

section
variable {calls : Sl} {h : Heap} {cs : List Cl} (ha : Arr h kapiCall calls cs) (hl : cs.length ≤ 40)
include ha hl
theorem next_spec {w n : Nat} (hn : n ≤ 40) {Q : Int → Heap → Prop} (h1 : ∀ i : Nat, (byL cs w)[n]? = some i → i < cs.length → Q (i : Int) h) (h2 : (byL cs w)[n]? = none → Q (-1) h) : ref4_next.M calls (w : Int) (n : Int) h Q := by
  have hcl : cs.length = calls.len := ha.1
  refine Loop.up cs.length (fun s => s.2.1) (fun i s k => k = h ∧ (byN cs i w).length ≤ n ∧ s.1 = (n : Int) - ((byN cs i w).length : Int)) rfl ⟨rfl, by simp [byN], by simp [byN]⟩ ?_
  rintro i ⟨m, i', u⟩ k go hi hc ⟨rfl, hle, e1⟩ hgo
  dsimp only at hc e1; subst hc; subst e1
  refine ⟨fun f => ?_, fun f => ?_⟩
  · have f : (i : Int) < (calls.len : Int) := of_decide_eq_true f
    have hlt : i < cs.length := by omega
    have hbi : (0 : Int) ≤ (i : Int) := by omega
    refine ⟨⟨hbi, f⟩, ha.part (kp := ki) (f := fun c => cWho c) hbi f rfl (fun c => ⟨[], Kd.cells (.pair ki (.pair ki (.pair ki (.pair ki (.pair ki (.pair ki .nil)))))) c.2, rfl, rfl⟩) fun c hc => ?_⟩
    rw [Int.toNat_natCast] at hc
    have hb : isBy cs w i = decide (cWho c = (w : Int)) := by unfold isBy; rw [hc]
    refine ⟨fun g => ?_, fun g => ?_⟩
    · have g : cWho c = (w : Int) := of_decide_eq_true g
      have hs : byN cs (i + 1) w = byN cs i w ++ [i] := by rw [byN_succ, hb, decide_eq_true g]; simp
      refine ⟨fun z => ?_, fun z => ?_⟩
      · have z : (n : Int) - ((byN cs i w).length : Int) = 0 := of_decide_eq_true z
        refine h1 i ?_ hlt
        obtain ⟨r, hr⟩ := byN_pre cs w (m := i + 1) (by omega)
        rw [hr, hs, List.append_assoc, List.getElem?_append_right (by omega), show n - (byN cs i w).length = 0 from by omega]
        rfl
      · have z : ¬ (n : Int) - ((byN cs i w).length : Int) = 0 := of_decide_eq_false z
        refine hgo hlt _ _ (w64_up' (n := cs.length) hlt (by omega)) ⟨rfl, by rw [hs, List.length_append]; show _ + 1 ≤ _; omega, ?_⟩
        show w64 ((n : Int) - ((byN cs i w).length : Int) - 1) = _
        rw [hs, List.length_append, w64_of (by omega) (by omega)]
        show _ = (n : Int) - (((byN cs i w).length + 1 : Nat) : Int)
        omega
    · have g : ¬ cWho c = (w : Int) := of_decide_eq_false g
      have hs : byN cs (i + 1) w = byN cs i w := by rw [byN_succ, hb, decide_eq_false g]; simp
      exact hgo hlt _ _ (w64_up' (n := cs.length) hlt (by omega)) ⟨rfl, by rw [hs]; exact hle, by rw [hs]⟩
  · have f : ¬ (i : Int) < (calls.len : Int) := of_decide_eq_false f
    obtain rfl : i = cs.length := by omega
    exact h2 (List.getElem?_eq_none hle)

theorem over_spec (hH : HistN cs cs.length) {t : Nat → Nat} (hf : ∀ w, t w ≤ (byL cs w).length) {st : Den kref4State} (hs : st.1 = tk t) {c1 : Sl → Int → Int → Heap → (Int → Heap → Prop) → Prop} (i1 : ∀ {a w n Q}, ref4_next.M a w n h Q → c1 a w n h Q)
    {Q : Bool → Heap → Prop} (hQ : ∀ d : Bool, (d = true ↔ DoneS cs t) → Q d h) : ref4_over.M c1 calls st h Q := by
  have hcl : cs.length = calls.len := ha.1
  refine Loop.up 4 (fun s => s.1) (fun w s k => k = h ∧ ∀ w' j x, w' < w → (byL cs w')[t w']? = some j → cs[j]? = some x → ¬ 0 ≤ cEn x) rfl ⟨rfl, fun w' j x hw => absurd hw (Nat.not_lt_zero _)⟩ ?_
  rintro w ⟨w', u⟩ k go hw hc ⟨rfl, hI⟩ hgo
  dsimp only at hc; subst hc
  refine ⟨fun e => ?_, fun e => ?_⟩
  · have e : (w : Int) < 4 := of_decide_eq_true e
    have hw4 : w < 4 := by omega
    have hb4 : (0 : Int) ≤ (w : Int) ∧ (w : Int) < (4 : Int) := by omega
    have hfw := hf w
    have hbl := byL_len cs w
    refine ⟨hb4, ?_⟩
    dsimp only
    rw [hs, Int.toNat_natCast, tk_at t hw4]
    have next : (∀ j x, (byL cs w)[t w]? = some j → cs[j]? = some x → ¬ 0 ≤ cEn x) → ref4_over.j1 go ((w : Int), u) () k := fun hn => by
      refine hgo hw4 _ _ (w64_up' (n := 4) hw4 (by omega)) ⟨rfl, fun w' j x hw' h1 h2 => ?_⟩
      by_cases q : w' = w
      · subst q; exact hn j x h1 h2
      · exact hI w' j x (by omega) h1 h2
    refine i1 (next_spec ha hl (by omega) (fun i hi hil => ⟨fun g => ?_, fun g => ?_⟩) (fun hn => ⟨fun g => ?_, fun g => ⟨fun q => (by cases q), fun _ => next fun j x h1 => by rw [hn] at h1; cases h1⟩⟩))
    · have hbi : (0 : Int) ≤ (i : Int) ∧ (i : Int) < (calls.len : Int) := by omega
      refine ⟨hbi, ha.part (kp := ki) (f := fun c => cEn c) hbi.1 hbi.2 rfl (fun c => ⟨[.int .i64 c.1, .int .i64 c.2.1, .int .i64 c.2.2.1, .int .i64 c.2.2.2.1], [.int .i64 c.2.2.2.2.2.1, .int .i64 c.2.2.2.2.2.2.1], rfl, rfl⟩) fun c hc => ?_⟩
      rw [Int.toNat_natCast] at hc
      refine ⟨fun q => ?_, fun q => next fun j x h1 h2 => ?_⟩
      · have q : 0 ≤ cEn c := of_decide_eq_true q
        exact hQ false ⟨fun z => (by cases z), fun z => absurd q ((over_iff hH).2 z w i c hw4 hi hc)⟩
      · have q : ¬ 0 ≤ cEn c := of_decide_eq_false q
        rw [hi] at h1; cases h1
        rw [hc] at h2; cases h2
        exact q
    · have g : ¬ (0 : Int) ≤ (i : Int) := of_decide_eq_false g
      omega
    · have g : (0 : Int) ≤ -1 := of_decide_eq_true g
      omega
  · have e : ¬ (w : Int) < 4 := of_decide_eq_false e
    exact hQ true ⟨fun _ => (over_iff hH).1 fun w' j x hw' => hI w' j x (by omega), fun _ => rfl⟩

theorem free_spec (hH : HistN cs cs.length) {t : Nat → Nat} (hf : ∀ w, t w ≤ (byL cs w).length) {st : Den kref4State} (hs : st.1 = tk t) {i : Nat} {c : Cl} (hc : cs[i]? = some c) {c1 : Sl → Int → Int → Heap → (Int → Heap → Prop) → Prop} {c2 : Cl → Cl → Heap → (Bool → Heap → Prop) → Prop}
    (i1 : ∀ {a w n Q}, ref4_next.M a w n h Q → c1 a w n h Q) (i2 : ∀ {a b Q}, ref4_ahead.M a b h Q → c2 a b h Q)
    {Q : Bool → Heap → Prop} (hQ : ∀ d : Bool, (d = true ↔ ¬ Wait cs t c) → Q d h) : ref4_free.M c1 c2 calls st (i : Int) h Q := by
  have hcl : cs.length = calls.len := ha.1
  have hil := (List.getElem?_eq_some_iff.1 hc).1
  refine Loop.up 4 (fun s => s.1) (fun w s k => k = h ∧ ∀ w' j x, w' < w → (byL cs w')[t w']? = some j → j ≠ i → cs[j]? = some x → ¬ Ahead x c) rfl ⟨rfl, fun w' j x hw => absurd hw (Nat.not_lt_zero _)⟩ ?_
  rintro w ⟨w', u⟩ k go hw hcc ⟨rfl, hI⟩ hgo
  dsimp only at hcc; subst hcc
  refine ⟨fun e => ?_, fun e => ?_⟩
  · have e : (w : Int) < 4 := of_decide_eq_true e
    have hw4 : w < 4 := by omega
    have hb4 : (0 : Int) ≤ (w : Int) ∧ (w : Int) < (4 : Int) := by omega
    have hfw := hf w
    have hbl := byL_len cs w
    refine ⟨hb4, ?_⟩
    dsimp only
    rw [hs, Int.toNat_natCast, tk_at t hw4]
    have next : (∀ j x, (byL cs w)[t w]? = some j → j ≠ i → cs[j]? = some x → ¬ Ahead x c) → ref4_free.j1 go ((w : Int), u) () k := fun hn => by
      refine hgo hw4 _ _ (w64_up' (n := 4) hw4 (by omega)) ⟨rfl, fun w' j x hw' h1 h2 h3 => ?_⟩
      by_cases q : w' = w
      · subst q; exact hn j x h1 h2 h3
      · exact hI w' j x (by omega) h1 h2 h3
    refine i1 (next_spec ha hl (by omega) (fun j hj hjl => ⟨fun _ => ⟨fun g => ?_, fun g => ?_⟩, fun g => ?_⟩) (fun hn => ⟨fun g => ?_, fun g => ⟨fun q => (by cases q), fun _ => next fun j x h1 => by rw [hn] at h1; cases h1⟩⟩))
    · have g : (j : Int) ≠ (i : Int) := of_decide_eq_true g
      have hbj : (0 : Int) ≤ (j : Int) ∧ (j : Int) < (calls.len : Int) := by omega
      have hbi : (0 : Int) ≤ (i : Int) ∧ (i : Int) < (calls.len : Int) := by omega
      obtain ⟨ca, cn, cc⟩ := calls
      cases ca with
      | none => have := ha.2.2; have := ha.1; dsimp only at *; omega
      | some ad =>
      refine ⟨hbj, hbi, ha.atA hbj.1 hbj.2 rfl fun x hx => ha.atA hbi.1 hbi.2 rfl fun y hy => ?_⟩
      rw [Int.toNat_natCast] at hx hy
      rw [hc] at hy; cases hy
      refine i2 (ahead_spec fun b hb => ⟨fun q => ?_, fun q => next fun j' x' h1 h2 h3 => ?_⟩)
      · have q : b = true := q
        exact hQ false ⟨fun z => (by cases z), fun z => absurd (hb.1 q) ((free_iff hH hc).2 z w j x hw4 hj (by omega) hx)⟩
      · have q : b = false := q
        rw [hj] at h1; cases h1
        rw [hx] at h3; cases h3
        intro hah
        rw [hb.2 hah] at q; cases q
    · have g : ¬ (j : Int) ≠ (i : Int) := of_decide_eq_false g
      refine ⟨fun q => (by cases q), fun _ => next fun j' x' h1 h2 h3 => ?_⟩
      rw [hj] at h1; cases h1
      omega
    · have g : ¬ (0 : Int) ≤ (j : Int) := of_decide_eq_false g
      omega
    · have g : (0 : Int) ≤ -1 := of_decide_eq_true g
      omega
  · have e : ¬ (w : Int) < 4 := of_decide_eq_false e
    exact hQ true ⟨fun _ => (free_iff hH hc).1 fun w' j x hw' => hI w' j x (by omega), fun _ => rfl⟩
end

theorem known_spec {l : Sl} {h : Heap} {ls : List (Den kref4State)} (ha : Arr h kref4State l ls) (hn : ls.length ≤ 2000000000) (d : Den kt4) {Q : Bool → Heap → Prop} (hQ : ∀ b : Bool, (b = true ↔ ∃ st ∈ ls, st.1 = d) → Q b h) : ref4_known.M l d h Q := by
  have hl : ls.length = l.len := ha.1
  refine Loop.up ls.length (fun s => s.1) (fun i s k => k = h ∧ ∀ (j : Nat) st, j < i → ls[j]? = some st → st.1 ≠ d) rfl ⟨rfl, fun j st hj => absurd hj (Nat.not_lt_zero _)⟩ ?_
  rintro i ⟨i', u⟩ k go hi hc ⟨rfl, hI⟩ hgo
  dsimp only at hc; subst hc
  refine ⟨fun f => ?_, fun f => ?_⟩
  · have f : (i : Int) < (l.len : Int) := of_decide_eq_true f
    have hlt : i < ls.length := by omega
    have hbi : (0 : Int) ≤ (i : Int) := by omega
    refine ⟨⟨hbi, f⟩, ha.part (kp := kt4) (f := fun st => st.1) hbi f rfl (fun st => ⟨[], Kd.cells (.pair .sl .nil) st.2, by simp [Kd.cells], rfl⟩) fun st hst => ?_⟩
    rw [Int.toNat_natCast] at hst
    refine ⟨fun g => ?_, fun g => ?_⟩
    · exact hQ true ⟨fun _ => ⟨st, List.mem_of_getElem? hst, (eq_kt4 _ _).1 g⟩, fun _ => rfl⟩
    · refine hgo hlt _ _ (w64_up' (n := ls.length) hlt (by omega)) ⟨rfl, fun j st' hj hst' => ?_⟩
      by_cases q : j = i
      · subst q
        rw [hst] at hst'; cases hst'
        intro e
        rw [(eq_kt4 _ _).2 e] at g; cases g
      · exact hI j st' (by omega) hst'
  · have f : ¬ (i : Int) < (l.len : Int) := of_decide_eq_false f
    refine hQ false ⟨fun q => (by cases q), ?_⟩
    rintro ⟨st, hm, e⟩
    obtain ⟨j, hj⟩ := List.mem_iff_getElem?.1 hm
    exact absurd e (hI j st (by have := (List.getElem?_eq_some_iff.1 hj).1; omega) hj)

end Go.Mx
