/-
  How many scripts are alike: counted from the end.
  How many scripts are alike: the walk of the count.
-/
import Derived.Test.YtipihecaaakagaaMxKi
set_option linter.unusedVariables false
set_option linter.unusedSimpArgs false
set_option linter.unusedSectionVars false
namespace Go.Mx

/-- How many of w's acts must be ahead of f, by what stands in L. -/
def bfF (bd : Ev → Ev → Bool) (L : List Ev) (f : Ev) (w : Int) : Nat := L.foldl (fun b c => if c.1 = w ∧ bd c f = true then c.2 + 1 else b) 0
theorem bfF_snoc (bd : Ev → Ev → Bool) (L : List Ev) (c f : Ev) (w : Int) : bfF bd (L ++ [c]) f w = if c.1 = w ∧ bd c f = true then c.2 + 1 else bfF bd L f w := by
  unfold bfF; rw [List.foldl_append]; rfl
theorem bfF_lt (bd : Ev → Ev → Bool) {ps : List Int} (h0 : ∀ p ∈ ps, 0 ≤ p) (f : Ev) (w : Int) (m : Nat) : m < bfF bd (evL ps) f w ↔ ∃ c ∈ evL ps, c.1 = w ∧ bd c f = true ∧ m ≤ c.2 := by
  induction ps using rev_ind with
  | nil => exact ⟨fun h => absurd h (Nat.not_lt_zero _), fun ⟨c, h, _⟩ => by cases h⟩
  | append_singleton ps p ih =>
    have h1 : ∀ q ∈ ps, 0 ≤ q := fun q hq => h0 q (List.mem_append_left _ hq)
    have ih := ih h1
    rw [evL_snoc, bfF_snoc]
    by_cases z : p = w ∧ bd (p, cnt ps p.toNat) f = true
    · rw [if_pos z]
      constructor
      · intro h
        exact ⟨(p, cnt ps p.toNat), by simp, z.1, z.2, by have h : m < cnt ps p.toNat + 1 := h; show m ≤ cnt ps p.toNat; omega⟩
      · rintro ⟨c, h2, h3, h4, h5⟩
        show m < cnt ps p.toNat + 1
        rcases List.mem_append.1 h2 with h2 | h2
        · have := ((evL_mem h1 c).1 h2).2
          rw [h3, ← z.1] at this
          omega
        · have : c = (p, cnt ps p.toNat) := by simpa using h2
          rw [this] at h5
          have h5 : m ≤ cnt ps p.toNat := h5
          omega
    · rw [if_neg z, ih]
      constructor
      · rintro ⟨c, h2, h3⟩
        exact ⟨c, List.mem_append_left _ h2, h3⟩
      · rintro ⟨c, h2, h3, h4, h5⟩
        rcases List.mem_append.1 h2 with h2 | h2
        · exact ⟨c, h2, h3, h4, h5⟩
        · have : c = (p, cnt ps p.toNat) := by simpa using h2
          rw [this] at h3 h4
          exact absurd ⟨h3, h4⟩ z
theorem evL_get (ps : List Int) (j : Nat) : (evL ps)[j]? = if j < ps.length then some (ps.getD j 0, cnt (ps.take j) (ps.getD j 0).toNat) else none := by
  unfold evL
  rw [List.getElem?_map]
  by_cases y : j < ps.length
  · rw [List.getElem?_range y, if_pos y]
    simp [List.getD_eq_getElem?_getD]
  · rw [List.getElem?_eq_none (by simpa using y), if_neg y]; rfl
theorem evL_take (ps : List Int) (i : Nat) : (evL ps).take i = evL (ps.take i) := by
  apply List.ext_getElem?
  intro j
  rw [List.getElem?_take, evL_get, evL_get, List.length_take]
  by_cases z : j < i
  · rw [if_pos z]
    by_cases y : j < ps.length
    · rw [if_pos y, if_pos (by omega), List.take_take, Nat.min_eq_left (by omega), List.getD_eq_getElem?_getD, List.getD_eq_getElem?_getD, List.getElem?_take, if_pos z]
    · rw [if_neg y, if_neg (by omega)]
  · rw [if_neg z, if_neg (by omega)]
/-- The same, of an act of the script. -/
def bfE (bd : Ev → Ev → Bool) (ps : List Int) (f : Ev) (w : Int) : Nat := bfF bd ((evL ps).takeWhile fun x => decide (x ≠ f)) f w
theorem takeWhile_ne {E : List Ev} (nd : E.Nodup) {i : Nat} (hi : i < E.length) : E.takeWhile (fun x => decide (x ≠ E[i])) = E.take i := by
  have hsp : E = E.take i ++ E[i] :: E.drop (i + 1) := by rw [← List.drop_eq_getElem_cons, List.take_append_drop]
  have h2 : E[i] ∉ E.take i := by
    have nd' := nd
    rw [hsp] at nd'
    exact (nodup_mid nd').2.1
  conv => lhs; arg 2; rw [hsp]
  rw [List.takeWhile_append_of_pos (fun x hx => decide_eq_true (show x ≠ E[i] from fun q => h2 (by rw [← q]; exact hx))), List.takeWhile_cons_of_neg (by simp)]
  simp
theorem bfE_at (bd : Ev → Ev → Bool) {ps : List Int} (h0 : ∀ p ∈ ps, 0 ≤ p) {i : Nat} (hi : i < (evL ps).length) (w : Int) : bfE bd ps (evL ps)[i] w = bfF bd (evL (ps.take i)) (evL ps)[i] w := by
  unfold bfE
  rw [takeWhile_ne (evL_nodup h0) hi, evL_take]
theorem bfE_lt (bd : Ev → Ev → Bool) {ps : List Int} (h0 : ∀ p ∈ ps, 0 ≤ p) {f : Ev} (hf : f ∈ evL ps) (w : Int) (m : Nat) : m < bfE bd ps f w ↔ ∃ c, [c, f].Sublist (evL ps) ∧ c.1 = w ∧ bd c f = true ∧ m ≤ c.2 := by
  obtain ⟨i, hi, rfl⟩ := List.mem_iff_getElem.1 hf
  have nd := evL_nodup h0
  rw [bfE_at bd h0 hi, bfF_lt bd (fun p hp => h0 p (List.mem_of_mem_take hp)), ← evL_take]
  have hsp : evL ps = (evL ps).take i ++ (evL ps)[i] :: (evL ps).drop (i + 1) := by rw [← List.drop_eq_getElem_cons, List.take_append_drop]
  have nd' := nd
  rw [hsp] at nd'
  obtain ⟨_, m2, m3⟩ := nodup_mid nd'
  constructor
  · rintro ⟨c, h1, h2⟩
    refine ⟨c, ?_, h2⟩
    exact Eq.mpr (congrArg (fun L => [c, (evL ps)[i]].Sublist L) hsp) (pair_app.2 (.inr (.inl ⟨h1, List.mem_cons_self⟩)))
  · rintro ⟨c, h1, h2⟩
    refine ⟨c, ?_, h2⟩
    have h1 : [c, (evL ps)[i]].Sublist ((evL ps).take i ++ (evL ps)[i] :: (evL ps).drop (i + 1)) := Eq.mp (congrArg (fun L => [c, (evL ps)[i]].Sublist L) hsp) h1
    rcases pair_app.1 h1 with q | ⟨q, _⟩ | q
    · exact absurd (pair_mem q).2 m2
    · exact q
    · rcases pair_cons.1 q with ⟨_, q2⟩ | q2
      · exact absurd q2 m3
      · exact absurd (pair_mem q2).2 m3

/-! ### the count -/
section
variable (B : Ev → Int → Nat) (nA : Nat)
def lastOk (at' : Nat → Nat) (w : Nat) : Bool := (List.range nA).all fun o => (List.range (at' o)).all fun k => decide ((o ≠ w ∨ k < at' w - 1) → B ((o : Int), k) (w : Int) ≤ at' w - 1)
def dec' (at' : Nat → Nat) (w : Nat) : Nat → Nat := fun i => if i = w then at' i - 1 else at' i
def waysN : Nat → (Nat → Nat) → Nat
  | 0, _ => 1
  | n + 1, at' => ((List.range nA).map fun w => if at' w = 0 then 0 else if lastOk B nA at' w = true then waysN n (dec' at' w) else 0).sum
def waysL : Nat → (Nat → Nat) → List (List Int)
  | 0, _ => [[]]
  | n + 1, at' => (List.range nA).flatMap fun w => if at' w = 0 then [] else if lastOk B nA at' w = true then (waysL n (dec' at' w)).map (· ++ [(w : Int)]) else []
theorem waysL_len : ∀ (n : Nat) (at' : Nat → Nat), (waysL B nA n at').length = waysN B nA n at'
  | 0, _ => rfl
  | n + 1, at' => by
    unfold waysL waysN
    rw [List.length_flatMap]
    congr 1
    refine List.map_congr_left fun w _ => ?_
    by_cases z : at' w = 0
    · rw [if_pos z, if_pos z]; rfl
    · rw [if_neg z, if_neg z]
      by_cases y : lastOk B nA at' w = true
      · rw [if_pos y, if_pos y, List.length_map, waysL_len n]
      · rw [if_neg y, if_neg y]; rfl
theorem waysL_nodup : ∀ (n : Nat) (at' : Nat → Nat), (waysL B nA n at').Nodup
  | 0, _ => by simp [waysL]
  | n + 1, at' => by
    unfold waysL
    rw [List.Nodup, List.pairwise_flatMap]
    refine ⟨fun w _ => ?_, List.pairwise_lt_range.imp fun {a b} hab x hx y hy e => ?_⟩
    · by_cases z : at' w = 0
      · rw [if_pos z]; exact .nil
      · rw [if_neg z]
        by_cases y : lastOk B nA at' w = true
        · rw [if_pos y, List.pairwise_map]
          exact (waysL_nodup n _).imp fun h q => h (List.append_cancel_right q)
        · rw [if_neg y]; exact .nil
    · have last : ∀ {w : Nat} {x : List Int}, x ∈ (if at' w = 0 then [] else if lastOk B nA at' w = true then (waysL B nA n (dec' at' w)).map (· ++ [(w : Int)]) else []) → x.getLast? = some (w : Int) := fun {w x} hx => by
        by_cases z : at' w = 0
        · rw [if_pos z] at hx; cases hx
        · rw [if_neg z] at hx
          by_cases y : lastOk B nA at' w = true
          · rw [if_pos y] at hx
            obtain ⟨q, _, rfl⟩ := List.mem_map.1 hx
            simp
          · rw [if_neg y] at hx; cases hx
      have h1 := last hx
      have h2 := last hy
      rw [e, h2] at h1
      have := Option.some.inj h1
      omega
theorem waysN_le (h4 : nA ≤ 4) : ∀ (n : Nat) (at' : Nat → Nat), waysN B nA n at' ≤ 4 ^ n
  | 0, _ => Nat.le_refl _
  | n + 1, at' => by
    unfold waysN
    have : ∀ (L : List Nat), (L.map fun w => if at' w = 0 then 0 else if lastOk B nA at' w = true then waysN B nA n (dec' at' w) else 0).sum ≤ L.length * 4 ^ n := by
      intro L
      induction L with
      | nil => simp
      | cons a L ih =>
        rw [List.map_cons, List.sum_cons, List.length_cons, Nat.succ_mul]
        have h1 := waysN_le h4 n (dec' at' a)
        have : (if at' a = 0 then 0 else if lastOk B nA at' a = true then waysN B nA n (dec' at' a) else 0) ≤ 4 ^ n := by
          split
          · exact Nat.zero_le _
          · split
            · exact h1
            · exact Nat.zero_le _
        omega
    have := this (List.range nA)
    rw [List.length_range] at this
    have h2 : nA * 4 ^ n ≤ 4 * 4 ^ n := Nat.mul_le_mul_right _ h4
    rw [Nat.pow_succ]
    omega
end

theorem sum_zero {l : List Nat} (h : l.sum = 0) : ∀ x ∈ l, x = 0 := by
  induction l with
  | nil => intro x hx; cases hx
  | cons a l ih =>
    rw [List.sum_cons] at h
    intro x hx
    rcases List.mem_cons.1 hx with rfl | hx
    · omega
    · exact ih (by omega) x hx
def sumN (nA : Nat) (at' : Nat → Nat) : Nat := ((List.range nA).map at').sum
theorem sumN_dec {nA : Nat} {at' : Nat → Nat} {w : Nat} (hw : w < nA) (h : at' w ≠ 0) : sumN nA at' = sumN nA (dec' at' w) + 1 := by
  unfold sumN
  induction nA with
  | zero => omega
  | succ n ih =>
    rw [List.range_succ, List.map_append, List.map_append, List.sum_append, List.sum_append]
    by_cases z : w = n
    · subst z
      have : (List.range w).map (dec' at' w) = (List.range w).map at' := List.map_congr_left fun i hi => by
        have := List.mem_range.1 hi
        unfold dec'; rw [if_neg (by omega)]
      rw [this]
      have e : dec' at' w w = at' w - 1 := if_pos rfl
      simp only [List.map_cons, List.map_nil, List.sum_cons, List.sum_nil]
      rw [e]
      omega
    · have ih := ih (by omega)
      have e : dec' at' w n = at' n := if_neg (fun q => z q.symm)
      simp only [List.map_cons, List.map_nil, List.sum_cons, List.sum_nil]
      rw [e]
      omega

section
variable {sz len : Int} {xss : List (List Ac)} {ps : List Int} (h0 : ∀ p ∈ ps, 0 ≤ p) (hr : InR xss.length ps)
/-- The acts up to a place. -/
def uptoE (ps : List Int) (at' : Nat → Nat) : List Ev := (evL ps).filter fun e => decide (e.2 < at' e.1.toNat)
theorem waysL_mem (bd : Ev → Ev → Bool) (sy : ∀ a b, bd a b = bd b a) (hr : InR xss.length ps) : ∀ (n : Nat) (at' : Nat → Nat), sumN xss.length at' = n → (∀ w, at' w ≤ cnt ps w) → (∀ f ∈ uptoE ps at', ∀ g, [g, f].Sublist (evL ps) → bd g f = true → g ∈ uptoE ps at') →
    ∀ q, q ∈ waysL (bfE bd ps) xss.length n at' ↔ InR xss.length q ∧ (∀ w, cnt q w = at' w) ∧ Alk bd (uptoE ps at') (evL q)
  | 0, at', hn, hle, hcl, q => by
    have h0 : ∀ p ∈ ps, 0 ≤ p := fun p hp => (hr p hp).1
    have hz : ∀ w, at' w = 0 := fun w => by
      by_cases z : w < xss.length
      · exact sum_zero hn _ (List.mem_map_of_mem (List.mem_range.2 z))
      · have := hle w
        rw [cnt_none hr (by omega)] at this
        omega
    have hu : uptoE ps at' = [] := by
      unfold uptoE
      rw [List.filter_eq_nil_iff]
      intro e _
      simp only [decide_eq_true_eq]
      rw [hz]; exact Nat.not_lt_zero _
    show q ∈ [[]] ↔ _
    rw [hu]
    constructor
    · intro h
      have : q = [] := by simpa using h
      subst this
      exact ⟨fun p hp => (by cases hp), fun w => by rw [hz]; rfl, rfl⟩
    · rintro ⟨h1, h2, h3⟩
      cases q with
      | nil => simp
      | cons p q =>
        have hp := h1 p (by simp)
        have := h2 p.toNat
        rw [hz, cnt_cons, if_pos (by omega)] at this
        omega
  | n + 1, at', hn, hle, hcl, q => by
    have h0 : ∀ p ∈ ps, 0 ≤ p := fun p hp => (hr p hp).1
    have nd := evL_nodup h0
    -- an actor's last act
    have step : ∀ {w : Nat}, w < xss.length → at' w ≠ 0 → ∃ l1 l2, uptoE ps at' = l1 ++ ((w : Int), at' w - 1) :: l2 ∧ uptoE ps (dec' at' w) = l1 ++ l2 ∧ ((w : Int), at' w - 1) ∈ evL ps := fun {w} hw hz => by
      have hm : ((w : Int), at' w - 1) ∈ evL ps := by
        rw [evL_mem h0]
        refine ⟨Int.natCast_nonneg w, ?_⟩
        show at' w - 1 < cnt ps ((w : Int)).toNat
        rw [Int.toNat_natCast]
        have := hle w
        omega
      have hu : ((w : Int), at' w - 1) ∈ uptoE ps at' := by
        unfold uptoE
        rw [List.mem_filter]
        refine ⟨hm, decide_eq_true ?_⟩
        show at' w - 1 < at' ((w : Int)).toNat
        rw [Int.toNat_natCast]; omega
      obtain ⟨l1, l2, e⟩ := List.append_of_mem hu
      refine ⟨l1, l2, e, ?_, hm⟩
      have ndu : (uptoE ps at').Nodup := nd.filter _
      have hd : uptoE ps (dec' at' w) = (uptoE ps at').filter fun x => decide (x ≠ ((w : Int), at' w - 1)) := by
        unfold uptoE
        rw [List.filter_filter]
        refine List.filter_congr fun x hx => ?_
        have hx1 := (evL_mem h0 x).1 hx
        rw [← Bool.decide_and, decide_eq_decide]
        unfold dec'
        by_cases z : x.1.toNat = w
        · rw [if_pos z]
          have hxw : x.1 = (w : Int) := by omega
          constructor
          · intro h
            refine ⟨fun q => ?_, by omega⟩
            rw [q] at h
            have h : at' w - 1 < at' ((w : Int)).toNat - 1 := h
            rw [Int.toNat_natCast] at h
            omega
          · rintro ⟨h1, h2⟩
            rw [z] at h2 ⊢
            rcases Nat.lt_or_ge x.2 (at' w - 1) with y | y
            · exact y
            · exact absurd (Prod.ext hxw (show x.2 = at' w - 1 by omega)) h1
        · rw [if_neg z]
          constructor
          · intro h
            exact ⟨fun q => z (by rw [q]; exact Int.toNat_natCast w), h⟩
          · exact fun h => h.2
      rw [hd, e]
      rw [e] at ndu
      obtain ⟨_, m2, m3⟩ := nodup_mid ndu
      rw [List.filter_append, List.filter_cons_of_neg (by simp), List.filter_eq_self.2 (fun a ha => decide_eq_true (show a ≠ _ from fun q => m2 (by rw [← q]; exact ha))), List.filter_eq_self.2 (fun a ha => decide_eq_true (show a ≠ _ from fun q => m3 (by rw [← q]; exact ha)))]
    have ndu : (uptoE ps at').Nodup := nd.filter _
    -- nothing stays behind an act that may be the last
    have lst : ∀ {w : Nat} {l1 l2 : List Ev}, w < xss.length → at' w ≠ 0 → uptoE ps at' = l1 ++ ((w : Int), at' w - 1) :: l2 → ((w : Int), at' w - 1) ∈ evL ps → (lastOk (bfE bd ps) xss.length at' w = true ↔ ∀ f ∈ l2, bd ((w : Int), at' w - 1) f = false) := fun {w l1 l2} hw hz e hm => by
      have hu : ∀ {f}, f ∈ uptoE ps at' ↔ f ∈ evL ps ∧ f.2 < at' f.1.toNat := fun {f} => by
        unfold uptoE
        rw [List.mem_filter, decide_eq_true_eq]
      have sub : ∀ {a b}, a ∈ uptoE ps at' → b ∈ uptoE ps at' → ([a, b].Sublist (evL ps) ↔ [a, b].Sublist (uptoE ps at')) := fun {a b} ha hb => by
        constructor
        · intro h
          have hne := pair_ne nd h
          rcases pair_tot ha hb hne with q | q
          · exact q
          · exact absurd (q.trans (List.filter_sublist ..)) (pair_asym nd h)
        · exact fun h => h.trans (List.filter_sublist ..)
      have heu : ((w : Int), at' w - 1) ∈ uptoE ps at' := by rw [e]; simp
      have hl2 : ∀ f, f ∈ l2 ↔ [((w : Int), at' w - 1), f].Sublist (uptoE ps at') := fun f => by
        rw [e] at ndu ⊢
        obtain ⟨_, m2, m3⟩ := nodup_mid ndu
        constructor
        · exact fun h => pair_app.2 (.inr (.inr (pair_cons.2 (.inl ⟨rfl, h⟩))))
        · intro h
          rcases pair_app.1 h with q | ⟨q, _⟩ | q
          · exact absurd (pair_mem q).1 m2
          · exact absurd q m2
          · rcases pair_cons.1 q with ⟨_, q⟩ | q
            · exact q
            · exact absurd (pair_mem q).1 m3
      unfold lastOk
      rw [List.all_eq_true]
      constructor
      · intro h f hf
        cases hb : bd ((w : Int), at' w - 1) f with
        | false => rfl
        | true =>
          exfalso
          have hfs := (hl2 f).1 hf
          have hfu := (pair_mem hfs).2
          obtain ⟨hfe, hf2⟩ := hu.1 hfu
          have hf1 := (evL_mem h0 f).1 hfe
          have ho : f.1.toNat < xss.length := by
            by_cases y : f.1.toNat < xss.length
            · exact y
            · have := hf1.2
              rw [cnt_none hr (by omega)] at this
              omega
          have h1 := h f.1.toNat (List.mem_range.2 ho)
          rw [List.all_eq_true] at h1
          have h2 := of_decide_eq_true (h1 f.2 (List.mem_range.2 hf2))
          have hfeq : (((f.1.toNat : Nat) : Int), f.2) = f := Prod.ext (by show ((f.1.toNat : Nat) : Int) = f.1; omega) rfl
          rw [hfeq] at h2
          have h3 := h2 (by
            by_cases y : f.1.toNat = w
            · right
              have hne := pair_ne ndu hfs
              rcases Nat.lt_or_ge f.2 (at' w - 1) with x | x
              · exact x
              · exfalso
                apply hne
                rw [y] at hf2
                exact Prod.ext (show (w : Int) = f.1 by omega) (show at' w - 1 = f.2 by omega)
            · exact .inl y)
          have h4 := (bfE_lt bd h0 hfe (w : Int) (at' w - 1)).2 ⟨_, (sub heu hfu).2 hfs, rfl, hb, Nat.le_refl _⟩
          omega
      · intro h o ho
        have ho := List.mem_range.1 ho
        rw [List.all_eq_true]
        intro k hk
        have hk := List.mem_range.1 hk
        refine decide_eq_true fun hne => ?_
        rcases Nat.lt_or_ge (at' w - 1) (bfE bd ps ((o : Int), k) (w : Int)) with x | x
        · exfalso
          have hfe : ((o : Int), k) ∈ evL ps := by
            rw [evL_mem h0]
            refine ⟨Int.natCast_nonneg o, ?_⟩
            show k < cnt ps ((o : Int)).toNat
            rw [Int.toNat_natCast]
            have := hle o
            omega
          have hfu : ((o : Int), k) ∈ uptoE ps at' := hu.2 ⟨hfe, by show k < at' ((o : Int)).toNat; rw [Int.toNat_natCast]; exact hk⟩
          obtain ⟨c, c1, c2, c3, c4⟩ := (bfE_lt bd h0 hfe (w : Int) (at' w - 1)).1 x
          have hcu := hcl _ hfu c c1 c3
          have hc2 := (hu.1 hcu).2
          rw [c2, Int.toNat_natCast] at hc2
          have hce : c = ((w : Int), at' w - 1) := Prod.ext c2 (show c.2 = at' w - 1 by omega)
          rw [hce] at c1 c3
          have := h _ ((hl2 _).2 ((sub heu hfu).1 c1))
          rw [c3] at this; cases this
        · exact x
    have closed : ∀ {w : Nat} {l1 l2 : List Ev}, uptoE ps at' = l1 ++ ((w : Int), at' w - 1) :: l2 → uptoE ps (dec' at' w) = l1 ++ l2 → (∀ f ∈ l2, bd ((w : Int), at' w - 1) f = false) → ∀ f ∈ uptoE ps (dec' at' w), ∀ g, [g, f].Sublist (evL ps) → bd g f = true → g ∈ uptoE ps (dec' at' w) := fun {w l1 l2} e1 e2 hun f hf g hg hb => by
      have hfu : f ∈ uptoE ps at' := by
        rw [e1]; rw [e2] at hf
        rcases List.mem_append.1 hf with q | q <;> simp [q]
      have hgu := hcl f hfu g hg hb
      rw [e2]
      rw [e1] at hgu
      by_cases z : g = ((w : Int), at' w - 1)
      · exfalso
        subst z
        have hfl : f ∈ l1 ∨ f ∈ l2 := List.mem_append.1 (by rw [← e2]; exact hf)
        rcases hfl with q | q
        · have hs : [f, ((w : Int), at' w - 1)].Sublist (uptoE ps at') := by rw [e1]; exact pair_app.2 (.inr (.inl ⟨q, by simp⟩))
          exact pair_asym nd hg (hs.trans (List.filter_sublist ..))
        · have := hun f q; rw [hb] at this; cases this
      · rcases List.mem_append.1 hgu with q | q
        · exact List.mem_append_left _ q
        · exact List.mem_append_right _ ((List.mem_cons.1 q).resolve_left z)
    have dle : ∀ {w : Nat}, ∀ i, dec' at' w i ≤ cnt ps i := fun {w} i => by
      have := hle i
      unfold dec'
      split <;> omega
    unfold waysL
    rw [List.mem_flatMap]
    constructor
    · rintro ⟨w, hw, hq⟩
      have hw := List.mem_range.1 hw
      by_cases z : at' w = 0
      · rw [if_pos z] at hq; cases hq
      · rw [if_neg z] at hq
        by_cases y : lastOk (bfE bd ps) xss.length at' w = true
        · rw [if_pos y] at hq
          obtain ⟨q', hq', rfl⟩ := List.mem_map.1 hq
          obtain ⟨l1, l2, e1, e2, hm⟩ := step hw z
          have hun := (lst hw z e1 hm).1 y
          have hn' : sumN xss.length (dec' at' w) = n := by have := sumN_dec hw z; omega
          obtain ⟨g1, g2, g3⟩ := (waysL_mem bd sy hr n (dec' at' w) hn' dle (closed e1 e2 hun) q').1 hq'
          have hcw : cnt q' w = at' w - 1 := by rw [g2]; exact if_pos rfl
          refine ⟨fun p hp => ?_, fun i => ?_, ?_⟩
          · rcases List.mem_append.1 hp with hp | hp
            · exact g1 p hp
            · have : p = (w : Int) := by simpa using hp
              rw [this]; omega
          · rw [cnt_app, cnt_one, g2]
            unfold dec'
            by_cases x : i = w
            · subst x; rw [if_pos rfl, if_pos rfl]; omega
            · rw [if_neg x, if_neg (by omega)]; rfl
          · rw [evL_snoc, Int.toNat_natCast, hcw, alk_snoc bd sy ndu]
            exact ⟨l1, l2, e1, hun, by rw [← e2]; exact g3⟩
        · rw [if_neg y] at hq; cases hq
    · rintro ⟨g1, g2, g3⟩
      rcases List.eq_nil_or_concat q with rfl | ⟨q', p, rfl⟩
      · exfalso
        have : ∀ w, at' w = 0 := fun w => (g2 w).symm
        unfold sumN at hn
        have e : (List.range xss.length).map at' = (List.range xss.length).map fun _ => 0 := List.map_congr_left fun i _ => this i
        rw [e] at hn
        have : ((List.range xss.length).map fun _ => 0).sum = 0 := by
          generalize List.range xss.length = L
          induction L with
          | nil => rfl
          | cons a L ih => rw [List.map_cons, List.sum_cons, ih]
        omega
      · rw [List.concat_eq_append] at g1 g2 g3 ⊢
        have hp := g1 p (by simp)
        obtain ⟨w, rfl⟩ : ∃ w : Nat, p = (w : Int) := ⟨p.toNat, by omega⟩
        have hw : w < xss.length := by omega
        have hcw := g2 w
        rw [cnt_app, cnt_one, if_pos rfl] at hcw
        have z : at' w ≠ 0 := by omega
        obtain ⟨l1, l2, e1, e2, hm⟩ := step hw z
        rw [evL_snoc, Int.toNat_natCast, show cnt q' w = at' w - 1 by omega, alk_snoc bd sy ndu] at g3
        obtain ⟨k1, k2, f1, f2, f3⟩ := g3
        have heq : l1 = k1 ∧ l2 = k2 := by
          have t1 : (uptoE ps at').takeWhile (fun x => decide (x ≠ ((w : Int), at' w - 1))) = l1 := by
            rw [e1] at ndu ⊢
            obtain ⟨_, m2, _⟩ := nodup_mid ndu
            rw [List.takeWhile_append_of_pos (fun x hx => decide_eq_true (show x ≠ _ from fun q => m2 (by rw [← q]; exact hx))), List.takeWhile_cons_of_neg (by simp)]; simp
          have t2 : (uptoE ps at').takeWhile (fun x => decide (x ≠ ((w : Int), at' w - 1))) = k1 := by
            rw [f1] at ndu ⊢
            obtain ⟨_, m2, _⟩ := nodup_mid ndu
            rw [List.takeWhile_append_of_pos (fun x hx => decide_eq_true (show x ≠ _ from fun q => m2 (by rw [← q]; exact hx))), List.takeWhile_cons_of_neg (by simp)]; simp
          have h1 := t1.symm.trans t2
          subst h1
          have := List.append_cancel_left (e1.symm.trans f1)
          cases this
          exact ⟨rfl, rfl⟩
        obtain ⟨rfl, rfl⟩ := heq
        have y := (lst hw z e1 hm).2 f2
        have hn' : sumN xss.length (dec' at' w) = n := by have := sumN_dec hw z; omega
        refine ⟨w, List.mem_range.2 hw, ?_⟩
        rw [if_neg z, if_pos y]
        refine List.mem_map.2 ⟨q', (waysL_mem bd sy hr n (dec' at' w) hn' dle (closed e1 e2 f2) q').2 ⟨fun p hp => g1 p (List.mem_append_left _ hp), fun i => ?_, by rw [e2]; exact f3⟩, rfl⟩
        have := g2 i
        rw [cnt_app, cnt_one] at this
        unfold dec'
        by_cases x : i = w
        · subst x; rw [if_pos rfl] at this ⊢; omega
        · rw [if_neg (by omega)] at this; rw [if_neg x]; omega
end
end Go.Mx

namespace Go.Mx

/-! ### maps -/
def mGet (kk : Kd) {β : Type} (l : List (Den kk × β)) (key : Den kk) : Option β := (fi kk key l 0).map (·.2)
theorem fi_shift' {kk : Kd} {β : Type} {key : Den kk} : ∀ (l : List (Den kk × β)) (i : Nat), fi kk key l (i + 1) = (fi kk key l i).map fun p => (p.1 + 1, p.2)
  | [], i => rfl
  | p :: l, i => by
    simp only [fi]
    cases eqK kk key p.1
    · exact fi_shift' l (i + 1)
    · rfl
theorem mGet_cons {kk : Kd} {β : Type} {key : Den kk} (p : Den kk × β) (l : List (Den kk × β)) : mGet kk (p :: l) key = bif eqK kk key p.1 then some p.2 else mGet kk l key := by
  unfold mGet
  simp only [fi]
  cases eqK kk key p.1
  · simp only [cond_false]
    rw [fi_shift', Option.map_map]; rfl
  · rfl
theorem mGet_put {kk : Kd} (hq : ∀ x y : Den kk, eqK kk x y = true ↔ x = y) {β : Type} (key : Den kk) (v : β) (k' : Den kk) : ∀ (l : List (Den kk × β)), mGet kk (mapPutL kk l key v) k' = bif eqK kk k' key then some v else mGet kk l k'
  | [] => by
    show mGet kk [(key, v)] k' = _
    rw [mGet_cons]
  | p :: l => by
    have ih := mGet_put hq key v k' l
    unfold mapPutL at ih ⊢
    simp only [fi]
    cases e : eqK kk key p.1
    · simp only [cond_false]
      rw [fi_shift']
      cases f : fi kk key l 0 with
      | none =>
        rw [f] at ih
        dsimp only [Option.map] at ih ⊢
        rw [List.cons_append, mGet_cons, ih, mGet_cons]
        cases e1 : eqK kk k' p.1
        · rfl
        · cases e2 : eqK kk k' key
          · rfl
          · have h1 := (hq k' p.1).1 e1
            have h2 := (hq k' key).1 e2
            rw [(hq key p.1).2 (h2.symm.trans h1)] at e; cases e
      | some q =>
        rw [f] at ih
        dsimp only [Option.map] at ih ⊢
        rw [List.set_cons_succ, mGet_cons, ih, mGet_cons]
        cases e1 : eqK kk k' p.1
        · rfl
        · cases e2 : eqK kk k' key
          · rfl
          · have h1 := (hq k' p.1).1 e1
            have h2 := (hq k' key).1 e2
            rw [(hq key p.1).2 (h2.symm.trans h1)] at e; cases e
    · simp only [cond_true]
      rw [List.set_cons_zero, mGet_cons, mGet_cons]
      have h1 := (hq key p.1).1 e
      show (bif eqK kk k' key then some v else mGet kk l k') = _
      rw [← h1]
      cases eqK kk k' key <;> rfl

abbrev ka4 : Kd := .arr 4 ki
theorem eq_ka4 (x y : Den ka4) : eqK ka4 x y = true ↔ x = y := by
  constructor
  · intro h
    simp only [eqK, List.all_eq_true, List.mem_finRange, true_implies] at h
    exact funext fun i => of_decide_eq_true (h i)
  · rintro rfl
    simp [eqK]
abbrev ag4 (f : Den ka4) (i : Nat) : Int := aget (n := 4) (a := ki) f i
/-- A row of counts, as the program writes it. -/
def ky (f : Nat → Nat) : Den ka4 := fun i => (f i.val : Int)
theorem ky_at (f : Nat → Nat) {w : Nat} (h : w < 4) : ag4 (ky f) w = (f w : Int) := by
  unfold ag4 aget; rw [dif_pos h]; rfl
theorem ky_dec (f : Nat → Nat) {w : Nat} (h : w < 4) (h0 : f w ≠ 0) (hb : f w ≤ 1000000) : aset (n := 4) (a := ki) (ky f) w (w64 (ag4 (ky f) w - 1)) = ky (dec' f w) := by
  funext i
  unfold aset
  rw [ky_at f h]
  by_cases e : i.val = w
  · rw [if_pos e]
    show w64 ((f w : Int) - 1) = ((dec' f w i.val : Nat) : Int)
    unfold dec'
    rw [if_pos e, e, w64_of (by omega) (by omega)]
    omega
  · rw [if_neg e]
    unfold ky dec'
    rw [if_neg e]
theorem ky_inj {f g : Nat → Nat} {n : Nat} (hn : n ≤ 4) (hf : ∀ w, n ≤ w → f w = 0) (hg : ∀ w, n ≤ w → g w = 0) (h : ky f = ky g) : f = g := by
  funext w
  by_cases z : w < 4
  · have := congrFun h ⟨w, z⟩
    unfold ky at this
    dsimp only at this
    exact Int.ofNat.inj this
  · rw [hf w (by omega), hg w (by omega)]
theorem ka4_part (f : Den ka4) {w : Nat} (h : w < 4) : PartAt ka4 ki w f (ag4 f w) := by
  match w, h with
  | 0, _ => exact ⟨[], _, rfl, rfl⟩
  | 1, _ => exact ⟨ki.cells (ag4 f 0), ki.cells (ag4 f 2) ++ ki.cells (ag4 f 3), rfl, rfl⟩
  | 2, _ => exact ⟨ki.cells (ag4 f 0) ++ ki.cells (ag4 f 1), ki.cells (ag4 f 3), rfl, rfl⟩
  | 3, _ => exact ⟨ki.cells (ag4 f 0) ++ ki.cells (ag4 f 1) ++ ki.cells (ag4 f 2), [], rfl, rfl⟩
theorem all_succ (f : Nat → Bool) (n : Nat) : (List.range (n + 1)).all f = ((List.range n).all f && f n) := by rw [List.range_succ, List.all_append]; simp
theorem sum_le (g : Nat → Nat) (c : Nat) (L : List Nat) (h : ∀ x ∈ L, g x ≤ c) : (L.map g).sum ≤ L.length * c := by
  induction L with
  | nil => simp
  | cons a L ih =>
    rw [List.map_cons, List.sum_cons, List.length_cons, Nat.succ_mul]
    have h1 := h a (by simp)
    have := ih fun x hx => h x (List.mem_cons_of_mem _ hx)
    omega

/-- The rows of the before-counts. -/
def Bef (h : Heap) (s6 : Sl) (B : Ev → Int → Nat) (nA : Nat) (lens : Nat → Nat) : Prop :=
  ∃ els, Arr h .sl s6 els ∧ els.length = nA ∧ ∀ o < nA, ∀ sl, els[o]? = some sl → ∃ rows : List (Den ka4), Arr h ka4 sl rows ∧ rows.length = lens o ∧ ∀ k v, rows[k]? = some v → ∀ w < 4, ag4 v w = (B ((o : Int), k) (w : Int) : Int)
theorem Bef.le {h h' : Heap} {s6 B nA lens} (b : Bef h s6 B nA lens) (l : Go.Mx.le h h') : Bef h' s6 B nA lens := by
  obtain ⟨els, b1, b2, b3⟩ := b
  refine ⟨els, b1.le l, b2, fun o ho sl hs => ?_⟩
  obtain ⟨rows, r1, r2, r3⟩ := b3 o ho sl hs
  exact ⟨rows, r1.le l, r2, r3⟩

section
variable {h0 : Heap} {s6 : Sl} {m nA : Nat} {B : Ev → Int → Nat} {lens : Nat → Nat}
def WM (m nA : Nat) (B : Ev → Int → Nat) (h : Heap) : Prop := ∃ l, MapIs h m ka4 ki l ∧ mGet ka4 l (ky fun _ => 0) = some (1 : Int) ∧ ∀ f, (∀ w, nA ≤ w → f w = 0) → ∀ v : Int, mGet ka4 l (ky f) = some v → v = (waysN B nA (sumN nA f) f : Int)
def Ag (m : Nat) (h0 h : Heap) : Prop := ∀ c, c ≠ m → h c = h0 c
theorem Ag.le {h : Heap} (a : Ag m h0 h) (hm : h0 m = none) : Go.Mx.le h0 h := fun b o e => by
  rw [a b (fun q => by rw [q, hm] at e; cases e)]; exact e
theorem sumN_zero {f : Nat → Nat} (h : sumN nA f = 0) (hf : ∀ w, nA ≤ w → f w = 0) : f = fun _ => 0 := by
  funext w
  by_cases z : w < nA
  · exact sum_zero h _ (List.mem_map_of_mem (List.mem_range.2 z))
  · exact hf w (by omega)
def wayS (B : Ev → Int → Nat) (nA n : Nat) (f : Nat → Nat) (w : Nat) : Nat := if f w = 0 then 0 else if lastOk B nA f w = true then waysN B nA n (dec' f w) else 0
theorem waysN_succ (n : Nat) (f : Nat → Nat) : waysN B nA (n + 1) f = ((List.range nA).map (wayS B nA n f)).sum := rfl
def condW (B : Ev → Int → Nat) (f : Nat → Nat) (w o k : Nat) : Bool := decide ((o ≠ w ∨ k < f w - 1) → B ((o : Int), k) (w : Int) ≤ f w - 1)
def condO (B : Ev → Int → Nat) (f : Nat → Nat) (w o : Nat) : Bool := (List.range (f o)).all (condW B f w o)
theorem lastOk_eq (f : Nat → Nat) (w : Nat) : lastOk B nA f w = (List.range nA).all (condO B f w) := rfl

end
end Go.Mx
