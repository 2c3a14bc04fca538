/-
  Scripts as words of events; the reference's search; scripts are alike just if their normal forms are the same.
  ExploreAlike: the walk.
-/
import Derived.Test.YtipihecaaakagaaMxKd
import Derived.Test.YtipihecaaakagaaMxKh
set_option linter.unusedVariables false
set_option linter.unusedSimpArgs false
set_option linter.unusedSectionVars false
namespace Go.Mx

/-- An act of a script: whose, and which of its. -/
abbrev Ev := Int × Nat
def evL (ps : List Int) : List Ev := (List.range ps.length).map fun j => ((ps[j]?).getD 0, cnt (ps.take j) ((ps[j]?).getD 0).toNat)
def gE (xss : List (List Ac)) (e : Ev) : Rc := (e.1, (xAt xss e.1.toNat e.2, ()))
def bdE (sz len : Int) (xss : List (List Ac)) (a b : Ev) : Bool := bdA sz len (gE xss a) (gE xss b)
def whoE (e : Ev) : Nat := e.1.toNat
theorem evL_snoc (ps : List Int) (p : Int) : evL (ps ++ [p]) = evL ps ++ [(p, cnt ps p.toNat)] := by
  unfold evL
  rw [List.length_append, List.length_singleton, List.range_succ, List.map_append, List.map_singleton]
  congr 1
  · refine List.map_congr_left fun j hj => ?_
    have hj := List.mem_range.1 hj
    rw [List.getElem?_append_left hj, List.take_append_of_le_length (by omega)]
  · rw [List.getElem?_append_right (Nat.le_refl _), Nat.sub_self, List.take_append_of_le_length (Nat.le_refl _), List.take_length]
    rfl
theorem evL_rows (xss : List (List Ac)) (ps : List Int) : rowP xss ps ps.length = (evL ps).map (gE xss) := by
  unfold rowP evL
  rw [List.map_map]
  rfl
theorem evL_len (ps : List Int) : (evL ps).length = ps.length := by unfold evL; rw [List.length_map, List.length_range]
theorem evL_fst (ps : List Int) : (evL ps).map (·.1) = ps := by
  induction ps using rev_ind with
  | nil => rfl
  | append_singleton ps p ih => rw [evL_snoc, List.map_append, ih]; rfl
theorem evL_filter (ps : List Int) (h0 : ∀ p ∈ ps, 0 ≤ p) (w : Nat) : (evL ps).filter (fun e => decide (whoE e = w)) = (List.range (cnt ps w)).map fun k => ((w : Int), k) := by
  induction ps using rev_ind with
  | nil => rfl
  | append_singleton ps p ih =>
    have ih := ih fun q hq => h0 q (List.mem_append_left _ hq)
    have hp := h0 p (by simp)
    rw [evL_snoc, List.filter_append, ih, cnt_app, cnt_one]
    by_cases z : p = (w : Int)
    · subst z
      rw [if_pos rfl, List.range_succ, List.map_append, List.filter_cons_of_pos (by exact decide_eq_true (Int.toNat_natCast w)), Int.toNat_natCast]
      rfl
    · rw [if_neg z, Nat.add_zero, List.filter_cons_of_neg (by simp only [decide_eq_true_eq]; show ¬ p.toNat = w; omega)]
      simp
theorem evL_mem {ps : List Int} (h0 : ∀ p ∈ ps, 0 ≤ p) (e : Ev) : e ∈ evL ps ↔ 0 ≤ e.1 ∧ e.2 < cnt ps e.1.toNat := by
  have h : e ∈ evL ps ↔ e ∈ (evL ps).filter fun x => decide (whoE x = whoE e) := by rw [List.mem_filter]; exact ⟨fun q => ⟨q, decide_eq_true rfl⟩, fun q => q.1⟩
  rw [h, evL_filter ps h0, List.mem_map]
  constructor
  · rintro ⟨k, hk, e1⟩
    have hk := List.mem_range.1 hk
    have e2 : ((whoE e : Nat) : Int) = e.1 := congrArg Prod.fst e1
    have e3 : k = e.2 := congrArg Prod.snd e1
    exact ⟨by omega, by rw [← e3]; exact hk⟩
  · rintro ⟨h1, h2⟩
    exact ⟨e.2, List.mem_range.2 h2, Prod.ext (show ((e.1.toNat : Nat) : Int) = e.1 by omega) rfl⟩
theorem evL_nodup {ps : List Int} (h0 : ∀ p ∈ ps, 0 ≤ p) : (evL ps).Nodup := by
  induction ps using rev_ind with
  | nil => exact List.nodup_nil
  | append_singleton ps p ih =>
    have h1 : ∀ q ∈ ps, 0 ≤ q := fun q hq => h0 q (List.mem_append_left _ hq)
    rw [evL_snoc, List.nodup_append]
    refine ⟨ih h1, by simp, fun a ha b hb e => ?_⟩
    have hb : b = (p, cnt ps p.toNat) := by simpa using hb
    rw [e, hb] at ha
    have := ((evL_mem h1 _).1 ha).2
    exact absurd this (Nat.lt_irrefl _)
/-- Two scripts of a scene have the same events. -/
structure Same2 (ps qs : List Int) : Prop where
  p0 : ∀ p ∈ ps, 0 ≤ p
  q0 : ∀ q ∈ qs, 0 ≤ q
  c : ∀ w, cnt ps w = cnt qs w
theorem Same2.filt {ps qs : List Int} (h : Same2 ps qs) (w : Nat) : (evL ps).filter (fun e => decide (whoE e = w)) = (evL qs).filter fun e => decide (whoE e = w) := by
  rw [evL_filter ps h.p0, evL_filter qs h.q0, h.c]
theorem Same2.perm {ps qs : List Int} (h : Same2 ps qs) : (evL ps).Perm (evL qs) :=
  (List.perm_ext_iff_of_nodup (evL_nodup h.p0) (evL_nodup h.q0)).2 fun e => by rw [evL_mem h.p0, evL_mem h.q0, h.c]
theorem cnt_none {n : Nat} {ps : List Int} (h : InR n ps) {w : Nat} (hw : n ≤ w) : cnt ps w = 0 := by
  unfold cnt
  rw [List.length_eq_zero_iff, List.filter_eq_nil_iff]
  intro p hp
  have := h p hp
  simp only [decide_eq_true_eq]
  omega
theorem ScriptP.same2 {lens : List Nat} {ps qs : List Int} (h1 : ScriptP lens ps) (h2 : ScriptP lens qs) : Same2 ps qs := by
  refine ⟨fun p hp => (h1.1 p hp).1, fun q hq => (h2.1 q hq).1, fun w => ?_⟩
  by_cases z : w < lens.length
  · rw [h1.2 w lens[w] (by simp), h2.2 w lens[w] (by simp)]
  · rw [cnt_none h1.1 (by omega), cnt_none h2.1 (by omega)]

theorem bdA_sym (sz len : Int) (a b : Rc) : bdA sz len a b = bdA sz len b a := by
  unfold bdA
  rw [Bool.eq_iff_iff, decide_eq_true_eq, decide_eq_true_eq]
  unfold DepI
  constructor
  · rintro (h | h)
    · exact .inl h.symm
    · rcases h with ⟨a, b⟩ | h | h | ⟨a, b, c, d⟩
      · exact .inr (.inl ⟨b, a⟩)
      · exact .inr (.inr (.inr (.inl h)))
      · exact .inr (.inr (.inl h))
      · exact .inr (.inr (.inr (.inr ⟨b, a, c.symm, d.symm⟩)))
  · rintro (h | h)
    · exact .inl h.symm
    · rcases h with ⟨a, b⟩ | h | h | ⟨a, b, c, d⟩
      · exact .inr (.inl ⟨b, a⟩)
      · exact .inr (.inr (.inr (.inl h)))
      · exact .inr (.inr (.inl h))
      · exact .inr (.inr (.inr (.inr ⟨b, a, c.symm, d.symm⟩)))
theorem bdE_sym (sz len : Int) (xss : List (List Ac)) (a b : Ev) : bdE sz len xss a b = bdE sz len xss b a := bdA_sym _ _ _ _
theorem bdE_fst {sz len : Int} {xss : List (List Ac)} {a b : Ev} (h : a.1 = b.1) : bdE sz len xss a b = true := by
  unfold bdE bdA
  exact decide_eq_true (.inl h)

/-! ### the search -/
def firstR (bd : Rc → Rc → Bool) (w : Int) (l : List Rc) : Option Nat := match l.findIdx? (fun a => decide (a.1 = w)) with
  | none => none
  | some k => match l[k]? with
    | none => none
    | some a => if (l.take k).any (fun b => bd b a) = true then none else some k
def sameR (bd : Rc → Rc → Bool) : List Rc → List Int → Bool
  | _, [] => true
  | l, w :: q => match firstR bd w l with
    | none => false
    | some k => sameR bd (l.eraseIdx k) q
theorem firstR_at {bd : Rc → Rc → Bool} {l1 l2 : List Rc} {a : Rc} (h : ∀ b ∈ l1, b.1 ≠ a.1) : firstR bd a.1 (l1 ++ a :: l2) = if l1.any (fun b => bd b a) = true then none else some l1.length := by
  have h1 : (l1 ++ a :: l2).findIdx? (fun b => decide (b.1 = a.1)) = some l1.length := by
    rw [List.findIdx?_eq_some_iff_getElem]
    refine ⟨by simp, by simp, fun j hj => ?_⟩
    rw [List.getElem_append_left hj]
    simpa using h _ (List.getElem_mem hj)
  unfold firstR
  rw [h1]
  have h2 : (l1 ++ a :: l2)[l1.length]? = some a := by rw [List.getElem?_append_right (Nat.le_refl _)]; simp
  simp only [h2]
  rw [List.take_left' rfl]
theorem sameR_alk {sz len : Int} {xss : List (List Ac)} : ∀ {m es : List Ev}, es.Nodup → (∀ e ∈ es, 0 ≤ e.1) → (∀ w, es.filter (fun e => decide (whoE e = w)) = m.filter fun e => decide (whoE e = w)) → (sameR (bdA sz len) (es.map (gE xss)) (m.map (·.1)) = true ↔ Alk (bdE sz len xss) es m)
  | [], es, nd, hn, hf => by
    have : es = [] := by
      cases es with
      | nil => rfl
      | cons a es =>
        have := hf (whoE a)
        rw [List.filter_cons_of_pos (by exact decide_eq_true rfl)] at this
        cases this
    subst this
    exact ⟨fun _ => rfl, fun _ => rfl⟩
  | e :: m, es, nd, hn, hf => by
    have h1 := hf (whoE e)
    rw [List.filter_cons_of_pos (l := m) (by exact decide_eq_true rfl)] at h1
    obtain ⟨l1, l2, rfl, g1, g2, g3⟩ := List.filter_eq_cons_iff.1 h1
    have he0 : 0 ≤ e.1 := hn e (by simp)
    have g1' : ∀ b ∈ l1, b.1 ≠ e.1 := fun b hb q => g1 b hb (by simp only [decide_eq_true_eq]; show b.1.toNat = e.1.toNat; rw [q])
    obtain ⟨n1, n2, n3⟩ := nodup_mid nd
    have hf2 : ∀ w, (l1 ++ l2).filter (fun e => decide (whoE e = w)) = m.filter fun e => decide (whoE e = w) := fun w => by
      have h2 := hf w
      by_cases z : whoE e = w
      · subst z
        rw [List.filter_append, g3, List.filter_eq_nil_iff.2 (fun a ha => g1 a ha)]; rfl
      · rw [List.filter_append, List.filter_cons_of_neg (by simpa using z), List.filter_cons_of_neg (by simpa using z)] at h2
        rw [List.filter_append]; exact h2
    have ih := sameR_alk (sz := sz) (len := len) (xss := xss) (m := m) n1 (fun x hx => hn x (by rcases List.mem_append.1 hx with q | q <;> simp [q])) hf2
    have hfr : firstR (bdA sz len) e.1 ((l1 ++ e :: l2).map (gE xss)) = if l1.any (fun b => bdE sz len xss b e) = true then none else some l1.length := by
      rw [List.map_append, List.map_cons]
      have := firstR_at (bd := bdA sz len) (l1 := l1.map (gE xss)) (l2 := l2.map (gE xss)) (a := gE xss e) (fun b hb => by
        obtain ⟨x, hx, rfl⟩ := List.mem_map.1 hb
        exact g1' x hx)
      rw [List.any_map, List.length_map] at this
      exact this
    show (match firstR (bdA sz len) e.1 ((l1 ++ e :: l2).map (gE xss)) with | none => false | some k => sameR (bdA sz len) (((l1 ++ e :: l2).map (gE xss)).eraseIdx k) (m.map (·.1))) = true ↔ _
    rw [hfr]
    by_cases z : l1.any (fun b => bdE sz len xss b e) = true
    · rw [if_pos z]
      refine ⟨fun q => (by cases q), fun ⟨k1, k2, q1, q2, q3⟩ => ?_⟩
      exfalso
      obtain ⟨b, hb, hbe⟩ := List.any_eq_true.1 z
      have : [b, e].Sublist (l1 ++ e :: l2) := pair_app.2 (.inr (.inl ⟨hb, by simp⟩))
      rw [q1] at this nd
      obtain ⟨_, m2, m3⟩ := nodup_mid nd
      rcases pair_app.1 this with q | ⟨q, _⟩ | q
      · exact m2 (pair_mem q).2
      · have := q2 b q
        rw [hbe] at this; cases this
      · rcases pair_cons.1 q with ⟨rfl, q⟩ | q
        · exact m3 q
        · exact m3 (pair_mem q).2
    · rw [if_neg z]
      have he : ((l1 ++ e :: l2).map (gE xss)).eraseIdx l1.length = (l1 ++ l2).map (gE xss) := by
        rw [List.map_append, List.map_cons, List.eraseIdx_append_of_length_le (by simp), List.length_map, Nat.sub_self, List.map_append]
        rfl
      show sameR (bdA sz len) (((l1 ++ e :: l2).map (gE xss)).eraseIdx l1.length) (m.map (·.1)) = true ↔ _
      rw [he, ih]
      have hun : ∀ f ∈ l1, bdE sz len xss f e = false := fun f hf => by
        cases q : bdE sz len xss f e with
        | false => rfl
        | true => exact absurd (List.any_eq_true.2 ⟨f, hf, q⟩) z
      constructor
      · exact fun q => ⟨l1, l2, rfl, hun, q⟩
      · rintro ⟨k1, k2, q1, q2, q3⟩
        have e1 : l1 = k1 := by
          have t1 : (l1 ++ e :: l2).takeWhile (fun x => decide (x ≠ e)) = l1 := by
            rw [List.takeWhile_append_of_pos (fun x hx => decide_eq_true (show x ≠ e from fun q => n2 (by rw [← q]; exact hx))), List.takeWhile_cons_of_neg (by simp)]; simp
          have t2 : (l1 ++ e :: l2).takeWhile (fun x => decide (x ≠ e)) = k1 := by
            rw [q1] at nd ⊢
            obtain ⟨_, m2, _⟩ := nodup_mid nd
            rw [List.takeWhile_append_of_pos (fun x hx => decide_eq_true (show x ≠ e from fun q => m2 (by rw [← q]; exact hx))), List.takeWhile_cons_of_neg (by simp)]; simp
          exact t1.symm.trans t2
        subst e1
        have := List.append_cancel_left q1
        cases this
        exact q3

/-! ### normal forms -/
theorem stF_map {α β : Type} (g : α → β) (bd : β → β → Bool) (S : List (α × Nat)) (e : α) : stF bd (S.map fun c => (g c.1, c.2)) (g e) = stF (fun a b => bd (g a) (g b)) S e := by
  induction S using rev_ind with
  | nil => rfl
  | append_singleton S c ih =>
    rw [List.map_append, List.map_singleton, stF_snoc, stF_snoc, ih]
theorem steps_map {α β : Type} (g : α → β) (bd : β → β → Bool) (l : List α) : steps bd (l.map g) = (steps (fun a b => bd (g a) (g b)) l).map fun c => (g c.1, c.2) := by
  induction l using rev_ind with
  | nil => rfl
  | append_singleton l e ih =>
    rw [List.map_append, List.map_singleton, steps_snoc, steps_snoc, ih, List.map_append, List.map_singleton, stF_map]
theorem foaS_ev {sz len : Int} {xss : List (List Ac)} {ps : List Int} : steps (bdA sz len) (rowP xss ps ps.length) = (steps (bdE sz len xss) (evL ps)).map fun c => (gE xss c.1, c.2) := by
  rw [evL_rows, steps_map]; rfl
theorem steps_nodup {α : Type} (bd : α → α → Bool) {l : List α} (nd : l.Nodup) : (steps bd l).Nodup := by
  have : ((steps bd l).map (·.1)).Nodup := by rw [steps_fst]; exact nd
  rw [List.Nodup, List.pairwise_map] at this
  exact this.imp fun h e => h (by rw [e])
abbrev formP (S : List (Rc × Nat)) (nA : Nat) : List (List Int) := (List.range (formR S).length).map (refRow S nA)
theorem formP_perm {S S' : List (Rc × Nat)} {nA : Nat} (h : S.Perm S') (hS : ∀ c ∈ S, 0 ≤ c.1.1 ∧ c.1.1 < (nA : Int)) : formP S nA = formP S' nA := by
  have hl : (formR S).length = (formR S').length := by
    have h1 := formR_len S (formR S').length fun c hc => formR_lt S' c (h.subset hc)
    have h2 := formR_len S' (formR S).length fun c hc => formR_lt S c (h.symm.subset hc)
    omega
  unfold formP
  rw [hl]
  refine List.map_congr_left fun n _ => ?_
  refine sorted_one ?_ (refRow_sort S nA n) (refRow_sort S' nA n)
  have p : (rawR S n).Perm (rawR S' n) := (h.filter _).map _
  exact (refRow_perm hS n).trans (p.trans (refRow_perm (fun c hc => hS c (h.symm.subset hc)) n).symm)
theorem formP_mem {S : List (Rc × Nat)} {nA : Nat} (hS : ∀ c ∈ S, 0 ≤ c.1.1 ∧ c.1.1 < (nA : Int)) (w : Int) (n : Nat) : (∃ c ∈ S, c.2 = n ∧ c.1.1 = w) ↔ ∃ row, (formP S nA)[n]? = some row ∧ w ∈ row := by
  have hr : w ∈ refRow S nA n ↔ ∃ c ∈ S, c.2 = n ∧ c.1.1 = w := by
    rw [(refRow_perm hS n).mem_iff]
    unfold rawR
    rw [List.mem_map]
    constructor
    · rintro ⟨c, hc, e⟩
      obtain ⟨h1, h2⟩ := List.mem_filter.1 hc
      exact ⟨c, h1, of_decide_eq_true h2, e⟩
    · rintro ⟨c, h1, h2, h3⟩
      exact ⟨c, List.mem_filter.2 ⟨h1, decide_eq_true h2⟩, h3⟩
  rw [← hr]
  constructor
  · intro h
    obtain ⟨c, h1, h2, h3⟩ := hr.1 h
    have := formR_lt S c h1
    exact ⟨refRow S nA n, by unfold formP; rw [List.getElem?_map, List.getElem?_range (by omega)]; rfl, h⟩
  · rintro ⟨row, h1, h2⟩
    unfold formP at h1
    rw [List.getElem?_map] at h1
    cases e : (List.range (formR S).length)[n]? with
    | none => rw [e] at h1; cases h1
    | some k =>
      rw [e] at h1
      have hk := (List.getElem?_eq_some_iff.1 e).2
      rw [List.getElem_range] at hk
      have h1 : refRow S nA k = row := Option.some.inj h1
      rw [← hk] at h1
      rw [h1]; exact h2
/-- An actor as a number. -/
def whoZ (e : Ev) : Nat := if 0 ≤ e.1 then 2 * e.1.toNat else 2 * (-e.1).toNat + 1
theorem whoZ_inj {a b : Ev} (h : whoZ a = whoZ b) : a.1 = b.1 := by
  unfold whoZ at h
  by_cases x : 0 ≤ a.1 <;> by_cases y : 0 ≤ b.1
  · rw [if_pos x, if_pos y] at h; omega
  · rw [if_pos x, if_neg y] at h; omega
  · rw [if_neg x, if_pos y] at h; omega
  · rw [if_neg x, if_neg y] at h; omega
theorem whoZ_filter {l m : List Ev} (hl : ∀ e ∈ l, 0 ≤ e.1) (hm : ∀ e ∈ m, 0 ≤ e.1) (h : ∀ w, l.filter (fun e => decide (whoE e = w)) = m.filter fun e => decide (whoE e = w)) (w : Nat) : l.filter (fun e => decide (whoZ e = w)) = m.filter fun e => decide (whoZ e = w) := by
  have key : ∀ {l : List Ev}, (∀ e ∈ l, 0 ≤ e.1) → l.filter (fun e => decide (whoZ e = w)) = if w % 2 = 0 then l.filter (fun e => decide (whoE e = w / 2)) else [] := fun {l} hl => by
    by_cases z : w % 2 = 0
    · rw [if_pos z]
      refine List.filter_congr fun e he => ?_
      have := hl e he
      rw [decide_eq_decide]
      unfold whoZ whoE
      rw [if_pos this]
      omega
    · rw [if_neg z, List.filter_eq_nil_iff]
      intro e he
      have := hl e he
      simp only [decide_eq_true_eq]
      unfold whoZ
      rw [if_pos this]
      omega
  rw [key hl, key hm, h]
/-- Scripts have the same form just if they are alike. -/
theorem form_alk {sz len : Int} {xss : List (List Ac)} {ps qs : List Int} (hp : ScriptP (xss.map List.length) ps) (hq : ScriptP (xss.map List.length) qs) :
    formP (steps (bdA sz len) (rowP xss ps ps.length)) xss.length = formP (steps (bdA sz len) (rowP xss qs qs.length)) xss.length ↔ Alk (bdE sz len xss) (evL ps) (evL qs) := by
  have s2 := hp.same2 hq
  have np := evL_nodup s2.p0
  have nq := evL_nodup s2.q0
  have rng : ∀ {ps : List Int}, ScriptP (xss.map List.length) ps → ∀ c ∈ steps (bdA sz len) (rowP xss ps ps.length), 0 ≤ c.1.1 ∧ c.1.1 < (xss.length : Int) := fun {ps} h c hc => by
    have hin := h.1
    rw [List.length_map] at hin
    have hm := steps_mem _ hc
    unfold rowP at hm
    obtain ⟨j, hj, e⟩ := List.mem_map.1 hm
    have hj := List.mem_range.1 hj
    rw [← e]
    show 0 ≤ (ps[j]?).getD 0 ∧ (ps[j]?).getD 0 < _
    rw [List.getElem?_eq_getElem hj]
    exact hin _ (List.getElem_mem hj)
  constructor
  · intro h
    refine alk_form (bdE sz len xss) whoZ (fun a b e => bdE_fst (whoZ_inj e)) (bdE_sym sz len xss) np s2.perm (whoZ_filter (fun e he => ((evL_mem s2.p0 e).1 he).1) (fun e he => ((evL_mem s2.q0 e).1 he).1) s2.filt) ?_
    have one : ∀ {ps qs : List Int}, ScriptP (xss.map List.length) ps → ScriptP (xss.map List.length) qs → formP (steps (bdA sz len) (rowP xss ps ps.length)) xss.length = formP (steps (bdA sz len) (rowP xss qs qs.length)) xss.length → ∀ w n, AtS (bdE sz len xss) whoZ (evL ps) w n → AtS (bdE sz len xss) whoZ (evL qs) w n := fun {ps qs} hp hq h w n ⟨e, h1, h2⟩ => by
      have m1 : ∃ c ∈ steps (bdA sz len) (rowP xss ps ps.length), c.2 = n ∧ c.1.1 = e.1 := by
        rw [foaS_ev]
        exact ⟨_, List.mem_map_of_mem h1, rfl, rfl⟩
      have m2 := (formP_mem (rng hp) e.1 n).1 m1
      rw [h] at m2
      obtain ⟨c, c1, c2, c3⟩ := (formP_mem (rng hq) e.1 n).2 m2
      rw [foaS_ev] at c1
      obtain ⟨d, d1, rfl⟩ := List.mem_map.1 c1
      refine ⟨d.1, by rw [← c2]; exact d1, ?_⟩
      have c3 : d.1.1 = e.1 := c3
      rw [← h2]
      unfold whoZ
      rw [c3]
    exact fun w n => ⟨one hp hq h w n, one hq hp h.symm w n⟩
  · intro h
    have h' := h.symm _ (bdE_sym sz len xss) np
    have pm : (steps (bdE sz len xss) (evL ps)).Perm (steps (bdE sz len xss) (evL qs)) :=
      (List.perm_ext_iff_of_nodup (steps_nodup _ np) (steps_nodup _ nq)).2 fun c => ⟨fun hc => steps_alk _ (bdE_sym sz len xss) np h c.1 c.2 hc, fun hc => steps_alk _ (bdE_sym sz len xss) nq h' c.1 c.2 hc⟩
    refine formP_perm ?_ (rng hp)
    rw [foaS_ev, foaS_ev]
    exact pm.map _
end Go.Mx

namespace Go.Mx

section
variable {h0 h : Heap} {sc : Sc} {l : List Rc} {rl : Sl} {cB : Sc → Rc → Rc → Heap → (Bool → Heap → Prop) → Prop}
end

theorem equal_spec {h : Heap} {a b : Sl} {xs ys : List Int} (ha : Arr h ki a xs) (hb : Arr h ki b ys) (hn : xs.length ≤ 1000000) {Q : Bool → Heap → Prop} (hQ : Q (decide (xs = ys)) h) : slices_Equal_int_int.M a b h Q := by
  have la := ha.1
  have lb := hb.1
  refine dcs (fun e => ?_) (fun e => ?_)
  · have e : (a.len : Int) ≠ (b.len : Int) := e
    rw [decide_eq_false (fun q => e (by rw [← la, ← lb, q]))] at hQ
    exact hQ
  · have e : (a.len : Int) = (b.len : Int) := Decidable.not_not.1 e
    refine Loop.up xs.length (fun s => s.1) (fun i st k => k = h ∧ xs.take i = ys.take i) rfl ⟨rfl, rfl⟩ ?_
    rintro i ⟨i', u⟩ k go hi hcc ⟨rfl, hI⟩ hgo
    dsimp only at hcc; subst hcc
    refine dcs (fun e2 => ?_) (fun e2 => ?_)
    · have e2 : (i : Int) < (a.len : Int) := e2
      have hix : i < xs.length := by omega
      have hiy : i < ys.length := by omega
      obtain ⟨aa, haa⟩ := ha.addr (by omega)
      obtain ⟨ab, hab⟩ := hb.addr (by omega)
      refine ⟨⟨Int.natCast_nonneg i, e2⟩, ?_⟩
      rw [haa]
      simp only [deref]
      refine ⟨⟨Int.natCast_nonneg i, show (i : Int) < (b.len : Int) by omega⟩, ?_⟩
      rw [hab]
      simp only [deref]
      rw [Int.toNat_natCast]
      refine ha.ldAt (k := ki) haa (List.getElem?_eq_getElem hix) rfl (hb.ldAt (k := ki) hab (List.getElem?_eq_getElem hiy) rfl (dcs (fun e3 => ?_) (fun e3 => ?_)))
      · have e3 : xs[i] ≠ ys[i] := e3
        rw [decide_eq_false (fun q => e3 (by subst q; rfl))] at hQ
        exact hQ
      · have e3 : xs[i] = ys[i] := Decidable.not_not.1 e3
        refine hgo hix _ _ (w64_up' (n := xs.length) hix (by omega)) ⟨rfl, ?_⟩
        rw [take_succ' xs hix, take_succ' ys hiy, hI, e3]
    · have e2 : ¬ (i : Int) < (a.len : Int) := e2
      rw [List.take_of_length_le (by omega), List.take_of_length_le (by omega)] at hI
      rw [decide_eq_true hI] at hQ
      exact hQ
theorem equalFunc_spec {h h1 h2 : Heap} {a b : Sl} {ea eb : List Sl} {xss yss : List (List Int)} (na : Nest h1 h ki a ea xss) (nb : Nest h2 h ki b eb yss) (hl : xss.length ≤ 1000000) (hr : ∀ xs ∈ xss, xs.length ≤ 1000000) {f : Value}
    {cf : Value → Sl → Sl → Heap → (Bool → Heap → Prop) → Prop} (i1 : ∀ {h : Heap} {a b : Sl} {xs ys : List Int} {Q : Bool → Heap → Prop}, Arr h ki a xs → Arr h ki b ys → xs.length ≤ 1000000 → Q (decide (xs = ys)) h → cf f a b h Q) {Q : Bool → Heap → Prop} (hQ : Q (decide (xss = yss)) h) : slices_EqualFunc_int_int_int_int.M cf a b f h Q := by
  have la := na.out.len
  have lb := nb.out.len
  have la2 := na.len
  have lb2 := nb.len
  refine dcs (fun e => ?_) (fun e => ?_)
  · have e : (a.len : Int) ≠ (b.len : Int) := e
    rw [decide_eq_false (fun q => e (by rw [← la, ← lb, la2, lb2, q]))] at hQ
    exact hQ
  · have e : (a.len : Int) = (b.len : Int) := Decidable.not_not.1 e
    refine Loop.up xss.length (fun s => s.1) (fun i st k => k = h ∧ xss.take i = yss.take i) rfl ⟨rfl, rfl⟩ ?_
    rintro i ⟨i', u⟩ k go hi hcc ⟨rfl, hI⟩ hgo
    dsimp only at hcc; subst hcc
    refine dcs (fun e2 => ?_) (fun e2 => ?_)
    · have e2 : (i : Int) < (a.len : Int) := e2
      have hix : i < xss.length := by omega
      have hiy : i < yss.length := by omega
      have xa : ea[i]? = some (ea[i]'(by omega)) := by simp
      have xb : eb[i]? = some (eb[i]'(by omega)) := by simp
      refine ⟨⟨Int.natCast_nonneg i, e2⟩, na.out.arr.at (Int.natCast_nonneg i) e2 rfl fun s1 hs1 => ?_⟩
      rw [Int.toNat_natCast, xa] at hs1
      have hs1 := Option.some.inj hs1
      subst hs1
      refine ⟨⟨Int.natCast_nonneg i, show (i : Int) < (b.len : Int) by omega⟩, nb.out.arr.at (Int.natCast_nonneg i) (show (i : Int) < (b.len : Int) by omega) rfl fun s2 hs2 => ?_⟩
      rw [Int.toNat_natCast, xb] at hs2
      have hs2 := Option.some.inj hs2
      subst hs2
      refine i1 (na.row i _ xss[i] xa (by simp)).arr (nb.row i _ yss[i] xb (by simp)).arr (hr _ (List.getElem_mem hix)) ⟨fun z => ?_, fun z => ?_⟩
      · have z : ¬ xss[i] = yss[i] := fun q => by rw [decide_eq_true q] at z; cases z
        rw [decide_eq_false (fun q => z (by subst q; rfl))] at hQ
        exact hQ
      · have z : xss[i] = yss[i] := Decidable.byContradiction fun q => by rw [decide_eq_false q] at z; cases z
        refine hgo hix _ _ (w64_up' (n := xss.length) hix (by omega)) ⟨rfl, ?_⟩
        rw [take_succ' xss hix, take_succ' yss hiy, hI, z]
    · have e2 : ¬ (i : Int) < (a.len : Int) := e2
      rw [List.take_of_length_le (by omega), List.take_of_length_le (by omega)] at hI
      rw [decide_eq_true hI] at hQ
      exact hQ

/-! ### the calls -/
/-- What Alike answers. -/
def AlR (sz : Int) (nb : Nat) (xss : List (List Ac)) (ps qs : List Int) (b : Bool) (e : Int) : Prop :=
  ∃ e0, Rdy sz nb xss ps e0 ∧ ((e0 ≠ 0 ∧ b = false ∧ e = e0) ∨ (e0 = 0 ∧ ¬ ScriptP (xss.map List.length) qs ∧ b = false ∧ e = 220) ∨ (e0 = 0 ∧ ScriptP (xss.map List.length) qs ∧ e = 0 ∧ (b = true ↔ Alk (bdE sz nb xss) (evL ps) (evL qs))))
theorem AlR.one {sz : Int} {nb : Nat} {xss : List (List Ac)} {ps qs : List Int} {b b' : Bool} {e e' : Int} (x : AlR sz nb xss ps qs b e) (y : AlR sz nb xss ps qs b' e') : b = b' ∧ e = e' := by
  obtain ⟨e0, x1, x2⟩ := x
  obtain ⟨e1, y1, y2⟩ := y
  obtain rfl := x1.one y1
  rcases x2 with ⟨a1, a2, a3⟩ | ⟨a1, a2, a3, a4⟩ | ⟨a1, a2, a3, a4⟩ <;> rcases y2 with ⟨b1, b2, b3⟩ | ⟨b1, b2, b3, b4⟩ | ⟨b1, b2, b3, b4⟩
  · exact ⟨a2.trans b2.symm, a3.trans b3.symm⟩
  · exact absurd b1 a1
  · exact absurd b1 a1
  · exact absurd a1 b1
  · exact ⟨a3.trans b3.symm, a4.trans b4.symm⟩
  · exact absurd b2 a2
  · exact absurd a1 b1
  · exact absurd a2 b2
  · exact ⟨by rw [Bool.eq_iff_iff, a4, b4], a3.trans b3.symm⟩

theorem alikeP_spec {s : Sc} {t u : Sl} {h : Heap} {bs ps qs : List Int} {xss : List (List Ac)} (r : ScR h s bs xss) (hs : Small bs xss) {c1 : Sc → Sl → Heap → (Int → Heap → Prop) → Prop} {c2 : Sc → Sl → Heap → (Bool → Heap → Prop) → Prop} {c3 : Sc → Sl → Heap → (Sl → Heap → Prop) → Prop} {c4 : Sl → Sl → Value → Heap → (Bool → Heap → Prop) → Prop}
    (i1 : ∀ {Q : Int → Heap → Prop}, (∀ e h', Rdy s.1 bs.length xss ps e → le h h' → Q e h') → c1 s t h Q)
    (i2 : ∀ {k : Heap} {Q : Bool → Heap → Prop}, le h k → (∀ b h', (b = true ↔ ScriptP (xss.map List.length) qs) → le k h' → Q b h') → c2 s u k Q)
    (i3 : ∀ {k : Heap} {ps : List Int} {t : Sl} {Q : Sl → Heap → Prop}, le h k → (Arr h ki t ps ∧ ps.length ≤ 1048576) → chkE s.1 bs.length xss = 0 → ScriptP (xss.map List.length) ps → (foaS s.1 bs.length xss ps).length ≤ 12 → (∀ c ∈ foaS s.1 bs.length xss ps, c.2 < 12) →
      (∀ o els (zss : List (List Int)) h', Nest k h' ki o els zss → zss.length = (formR (foaS s.1 bs.length xss ps)).length → (∀ (i : Nat) (z : List Int), zss[i]? = some z → z.Perm (((formR (foaS s.1 bs.length xss ps))[i]?).getD []) ∧ z.Pairwise (· ≤ ·)) → Q o h') → c3 s t k Q)
    (i4 : ∀ {h h1 h2 : Heap} {a b : Sl} {ea eb : List Sl} {xss yss : List (List Int)} {Q : Bool → Heap → Prop}, Nest h1 h ki a ea xss → Nest h2 h ki b eb yss → xss.length ≤ 1000000 → (∀ xs ∈ xss, xs.length ≤ 1000000) → Q (decide (xss = yss)) h → c4 a b (Value.func (.func 59) #[] #[]) h Q)
    (hp : Arr h ki t ps ∧ ps.length ≤ 1048576) (hq : Arr h ki u qs ∧ qs.length ≤ 1048576)
    {Q : (Bool × (Int × Unit)) → Heap → Prop} (hQ : ∀ b e h', AlR s.1 bs.length xss ps qs b e → le h h' → Q (b, (e, ())) h') : explore_Alike.M c1 c2 c3 c4 s t u h Q := by
  refine i1 fun e h1 hr l1 => dcs (fun d => hQ false e h1 ⟨e, hr, .inl ⟨d, rfl, rfl⟩⟩ l1) (fun d => ?_)
  have d : e = 0 := Decidable.not_not.1 d
  subst d
  obtain ⟨hc, hS⟩ := hr.ok
  refine i2 l1 fun b h2 hb l2 => ⟨fun z => ?_, fun z => ?_⟩
  · have z : ¬ ScriptP (xss.map List.length) qs := fun y => by rw [hb.2 y] at z; cases z
    exact hQ false 220 h2 ⟨0, hr, .inr (.inl ⟨rfl, z, rfl, rfl⟩)⟩ (l1.trans l2)
  · have hSq : ScriptP (xss.map List.length) qs := hb.1 (by cases b <;> first | rfl | cases z)
    have h10 := ten hs.2.1 hs.2.2 hc hS
    have h10q := ten hs.2.1 hs.2.2 hc hSq
    obtain ⟨f1, f2, f3⟩ := foaS_ok (sz := s.1) (len := bs.length) hS h10
    obtain ⟨g1, g2, g3⟩ := foaS_ok (sz := s.1) (len := bs.length) hSq h10q
    refine i3 (l1.trans l2) hp hc hS f1 f2 fun o els zss h3 n hl hz => ?_
    refine i3 ((l1.trans l2).trans n.le) hq hc hSq g1 g2 fun o2 els2 zss2 h4 n2 hl2 hz2 => ?_
    have e1 := rows_eq f3 hl hz
    have e2 := rows_eq g3 hl2 hz2
    have sm := foataP_small (len := bs.length) hs.2.1 hs.2.2 hr
    unfold foataP at sm
    rw [if_pos rfl, ← e1] at sm
    have hlr := formR_len _ 12 f2
    refine i4 (n.more n2.le) n2 (by omega) (fun xs hx => ?_) ?_
    · rw [e1] at hx
      obtain ⟨m, _, rfl⟩ := List.mem_map.1 hx
      have p := (refRow_perm f3 m).length_eq
      have q : (rawR (foaS s.1 bs.length xss ps) m).length ≤ (foaS s.1 bs.length xss ps).length := by unfold rawR; rw [List.length_map]; exact List.length_filter_le _ _
      omega
    · refine hQ _ 0 h4 ⟨0, hr, .inr (.inr ⟨rfl, hSq, rfl, ?_⟩)⟩ (((l1.trans l2).trans n.le).trans n2.le)
      rw [decide_eq_true_eq, e1, e2]
      exact form_alk hS hSq

end Go.Mx
