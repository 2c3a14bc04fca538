/-
  Scripts as words of events; the reference's search; scripts are alike just if their normal forms are the same.
  ExploreAlike: the walk.
-/
import Derived.Test.YtanfmmcpjifgiabMxKd
import Derived.Test.YtanfmmcpjifgiabMxKh
set_option linter.unusedVariables false
set_option linter.unusedSimpArgs false
set_option linter.unusedSectionVars false
namespace Go.Mx

/-- An act of a script: whose, and which of its. -/
abbrev Ev := Int × Nat
def evL (ps : List Int) : List Ev := (List.range ps.length).map fun j => ((ps[j]?).getD 0, cnt (ps.take j) ((ps[j]?).getD 0).toNat)
def gE (xss : List (List Ac)) (e : Ev) : Rc := (e.1, (xAt xss e.1.toNat e.2, ()))
def bdE (sz len : Int) (xss : List (List Ac)) (a b : Ev) : Bool := bdA sz len (gE xss a) (gE xss b)
def whoE (e : Ev) : Nat := e.1.toNat
theorem evL_snoc (ps : List Int) (p : Int) : evL (ps ++ [p]) = evL ps ++ [(p, cnt ps p.toNat)] := by
  unfold evL
  rw [List.length_append, List.length_singleton, List.range_succ, List.map_append, List.map_singleton]
  congr 1
  · refine List.map_congr_left fun j hj => ?_
    have hj := List.mem_range.1 hj
    rw [List.getElem?_append_left hj, List.take_append_of_le_length (by omega)]
  · rw [List.getElem?_append_right (Nat.le_refl _), Nat.sub_self, List.take_append_of_le_length (Nat.le_refl _), List.take_length]
    rfl
theorem evL_rows (xss : List (List Ac)) (ps : List Int) : rowP xss ps ps.length = (evL ps).map (gE xss) := by
  unfold rowP evL
  rw [List.map_map]
  rfl
theorem evL_len (ps : List Int) : (evL ps).length = ps.length := by unfold evL; rw [List.length_map, List.length_range]
theorem evL_fst (ps : List Int) : (evL ps).map (·.1) = ps := by
  induction ps using rev_ind with
  | nil => rfl
  | append_singleton ps p ih => rw [evL_snoc, List.map_append, ih]; rfl
theorem evL_filter (ps : List Int) (h0 : ∀ p ∈ ps, 0 ≤ p) (w : Nat) : (evL ps).filter (fun e => decide (whoE e = w)) = (List.range (cnt ps w)).map fun k => ((w : Int), k) := by
  induction ps using rev_ind with
  | nil => rfl
  | append_singleton ps p ih =>
    have ih := ih fun q hq => h0 q (List.mem_append_left _ hq)
    have hp := h0 p (by simp)
    rw [evL_snoc, List.filter_append, ih, cnt_app, cnt_one]
    by_cases z : p = (w : Int)
    · subst z
      rw [if_pos rfl, List.range_succ, List.map_append, List.filter_cons_of_pos (by exact decide_eq_true (Int.toNat_natCast w)), Int.toNat_natCast]
      rfl
    · rw [if_neg z, Nat.add_zero, List.filter_cons_of_neg (by simp only [decide_eq_true_eq]; show ¬ p.toNat = w; omega)]
      simp
theorem evL_mem {ps : List Int} (h0 : ∀ p ∈ ps, 0 ≤ p) (e : Ev) : e ∈ evL ps ↔ 0 ≤ e.1 ∧ e.2 < cnt ps e.1.toNat := by
  have h : e ∈ evL ps ↔ e ∈ (evL ps).filter fun x => decide (whoE x = whoE e) := by rw [List.mem_filter]; exact ⟨fun q => ⟨q, decide_eq_true rfl⟩, fun q => q.1⟩
  rw [h, evL_filter ps h0, List.mem_map]
  constructor
  · rintro ⟨k, hk, e1⟩
    have hk := List.mem_range.1 hk
    have e2 : ((whoE e : Nat) : Int) = e.1 := congrArg Prod.fst e1
    have e3 : k = e.2 := congrArg Prod.snd e1
    exact ⟨by omega, by rw [← e3]; exact hk⟩
  · rintro ⟨h1, h2⟩
    exact ⟨e.2, List.mem_range.2 h2, Prod.ext (show ((e.1.toNat : Nat) : Int) = e.1 by omega) rfl⟩
theorem evL_nodup {ps : List Int} (h0 : ∀ p ∈ ps, 0 ≤ p) : (evL ps).Nodup := by
  induction ps using rev_ind with
  | nil => exact List.nodup_nil
  | append_singleton ps p ih =>
    have h1 : ∀ q ∈ ps, 0 ≤ q := fun q hq => h0 q (List.mem_append_left _ hq)
    rw [evL_snoc, List.nodup_append]
    refine ⟨ih h1, by simp, fun a ha b hb e => ?_⟩
    have hb : b = (p, cnt ps p.toNat) := by simpa using hb
    rw [e, hb] at ha
    have := ((evL_mem h1 _).1 ha).2
    exact absurd this (Nat.lt_irrefl _)
/-- Two scripts of a scene have the same events. -/
structure Same2 (ps qs : List Int) : Prop where
  p0 : ∀ p ∈ ps, 0 ≤ p
  q0 : ∀ q ∈ qs, 0 ≤ q
  c : ∀ w, cnt ps w = cnt qs w
theorem Same2.filt {ps qs : List Int} (h : Same2 ps qs) (w : Nat) : (evL ps).filter (fun e => decide (whoE e = w)) = (evL qs).filter fun e => decide (whoE e = w) := by
  rw [evL_filter ps h.p0, evL_filter qs h.q0, h.c]
theorem Same2.perm {ps qs : List Int} (h : Same2 ps qs) : (evL ps).Perm (evL qs) :=
  (List.perm_ext_iff_of_nodup (evL_nodup h.p0) (evL_nodup h.q0)).2 fun e => by rw [evL_mem h.p0, evL_mem h.q0, h.c]
theorem cnt_none {n : Nat} {ps : List Int} (h : InR n ps) {w : Nat} (hw : n ≤ w) : cnt ps w = 0 := by
  unfold cnt
  rw [List.length_eq_zero_iff, List.filter_eq_nil_iff]
  intro p hp
  have := h p hp
  simp only [decide_eq_true_eq]
  omega
theorem ScriptP.same2 {lens : List Nat} {ps qs : List Int} (h1 : ScriptP lens ps) (h2 : ScriptP lens qs) : Same2 ps qs := by
  refine ⟨fun p hp => (h1.1 p hp).1, fun q hq => (h2.1 q hq).1, fun w => ?_⟩
  by_cases z : w < lens.length
  · rw [h1.2 w lens[w] (by simp), h2.2 w lens[w] (by simp)]
  · rw [cnt_none h1.1 (by omega), cnt_none h2.1 (by omega)]

theorem bdA_sym (sz len : Int) (a b : Rc) : bdA sz len a b = bdA sz len b a := by
  unfold bdA
  rw [Bool.eq_iff_iff, decide_eq_true_eq, decide_eq_true_eq]
  unfold DepI
  constructor
  · rintro (h | h)
    · exact .inl h.symm
    · rcases h with ⟨a, b⟩ | h | h | ⟨a, b, c, d⟩
      · exact .inr (.inl ⟨b, a⟩)
      · exact .inr (.inr (.inr (.inl h)))
      · exact .inr (.inr (.inl h))
      · exact .inr (.inr (.inr (.inr ⟨b, a, c.symm, d.symm⟩)))
  · rintro (h | h)
    · exact .inl h.symm
    · rcases h with ⟨a, b⟩ | h | h | ⟨a, b, c, d⟩
      · exact .inr (.inl ⟨b, a⟩)
      · exact .inr (.inr (.inr (.inl h)))
      · exact .inr (.inr (.inl h))
      · exact .inr (.inr (.inr (.inr ⟨b, a, c.symm, d.symm⟩)))
theorem bdE_sym (sz len : Int) (xss : List (List Ac)) (a b : Ev) : bdE sz len xss a b = bdE sz len xss b a := bdA_sym _ _ _ _
theorem bdE_fst {sz len : Int} {xss : List (List Ac)} {a b : Ev} (h : a.1 = b.1) : bdE sz len xss a b = true := by
  unfold bdE bdA
  exact decide_eq_true (.inl h)

/-! ### the search -/
def firstR (bd : Rc → Rc → Bool) (w : Int) (l : List Rc) : Option Nat := match l.findIdx? (fun a => decide (a.1 = w)) with
  | none => none
  | some k => match l[k]? with
    | none => none
    | some a => if (l.take k).any (fun b => bd b a) = true then none else some k
def sameR (bd : Rc → Rc → Bool) : List Rc → List Int → Bool
  | _, [] => true
  | l, w :: q => match firstR bd w l with
    | none => false
    | some k => sameR bd (l.eraseIdx k) q
theorem firstR_at {bd : Rc → Rc → Bool} {l1 l2 : List Rc} {a : Rc} (h : ∀ b ∈ l1, b.1 ≠ a.1) : firstR bd a.1 (l1 ++ a :: l2) = if l1.any (fun b => bd b a) = true then none else some l1.length := by
  have h1 : (l1 ++ a :: l2).findIdx? (fun b => decide (b.1 = a.1)) = some l1.length := by
    rw [List.findIdx?_eq_some_iff_getElem]
    refine ⟨by simp, by simp, fun j hj => ?_⟩
    rw [List.getElem_append_left hj]
    simpa using h _ (List.getElem_mem hj)
  unfold firstR
  rw [h1]
  have h2 : (l1 ++ a :: l2)[l1.length]? = some a := by rw [List.getElem?_append_right (Nat.le_refl _)]; simp
  simp only [h2]
  rw [List.take_left' rfl]
theorem sameR_alk {sz len : Int} {xss : List (List Ac)} : ∀ {m es : List Ev}, es.Nodup → (∀ e ∈ es, 0 ≤ e.1) → (∀ w, es.filter (fun e => decide (whoE e = w)) = m.filter fun e => decide (whoE e = w)) → (sameR (bdA sz len) (es.map (gE xss)) (m.map (·.1)) = true ↔ Alk (bdE sz len xss) es m)
  | [], es, nd, hn, hf => by
    have : es = [] := by
      cases es with
      | nil => rfl
      | cons a es =>
        have := hf (whoE a)
        rw [List.filter_cons_of_pos (by exact decide_eq_true rfl)] at this
        cases this
    subst this
    exact ⟨fun _ => rfl, fun _ => rfl⟩
  | e :: m, es, nd, hn, hf => by
    have h1 := hf (whoE e)
    rw [List.filter_cons_of_pos (l := m) (by exact decide_eq_true rfl)] at h1
    obtain ⟨l1, l2, rfl, g1, g2, g3⟩ := List.filter_eq_cons_iff.1 h1
    have he0 : 0 ≤ e.1 := hn e (by simp)
    have g1' : ∀ b ∈ l1, b.1 ≠ e.1 := fun b hb q => g1 b hb (by simp only [decide_eq_true_eq]; show b.1.toNat = e.1.toNat; rw [q])
    obtain ⟨n1, n2, n3⟩ := nodup_mid nd
    have hf2 : ∀ w, (l1 ++ l2).filter (fun e => decide (whoE e = w)) = m.filter fun e => decide (whoE e = w) := fun w => by
      have h2 := hf w
      by_cases z : whoE e = w
      · subst z
        rw [List.filter_append, g3, List.filter_eq_nil_iff.2 (fun a ha => g1 a ha)]; rfl
      · rw [List.filter_append, List.filter_cons_of_neg (by simpa using z), List.filter_cons_of_neg (by simpa using z)] at h2
        rw [List.filter_append]; exact h2
    have ih := sameR_alk (sz := sz) (len := len) (xss := xss) (m := m) n1 (fun x hx => hn x (by rcases List.mem_append.1 hx with q | q <;> simp [q])) hf2
    have hfr : firstR (bdA sz len) e.1 ((l1 ++ e :: l2).map (gE xss)) = if l1.any (fun b => bdE sz len xss b e) = true then none else some l1.length := by
      rw [List.map_append, List.map_cons]
      have := firstR_at (bd := bdA sz len) (l1 := l1.map (gE xss)) (l2 := l2.map (gE xss)) (a := gE xss e) (fun b hb => by
        obtain ⟨x, hx, rfl⟩ := List.mem_map.1 hb
        exact g1' x hx)
      rw [List.any_map, List.length_map] at this
      exact this
    show (match firstR (bdA sz len) e.1 ((l1 ++ e :: l2).map (gE xss)) with | none => false | some k => sameR (bdA sz len) (((l1 ++ e :: l2).map (gE xss)).eraseIdx k) (m.map (·.1))) = true ↔ _
    rw [hfr]
    by_cases z : l1.any (fun b => bdE sz len xss b e) = true
    · rw [if_pos z]
      refine ⟨fun q => (by cases q), fun ⟨k1, k2, q1, q2, q3⟩ => ?_⟩
      exfalso
      obtain ⟨b, hb, hbe⟩ := List.any_eq_true.1 z
      have : [b, e].Sublist (l1 ++ e :: l2) := pair_app.2 (.inr (.inl ⟨hb, by simp⟩))
      rw [q1] at this nd
      obtain ⟨_, m2, m3⟩ := nodup_mid nd
      rcases pair_app.1 this with q | ⟨q, _⟩ | q
      · exact m2 (pair_mem q).2
      · have := q2 b q
        rw [hbe] at this; cases this
      · rcases pair_cons.1 q with ⟨rfl, q⟩ | q
        · exact m3 q
        · exact m3 (pair_mem q).2
    · rw [if_neg z]
      have he : ((l1 ++ e :: l2).map (gE xss)).eraseIdx l1.length = (l1 ++ l2).map (gE xss) := by
        rw [List.map_append, List.map_cons, List.eraseIdx_append_of_length_le (by simp), List.length_map, Nat.sub_self, List.map_append]
        rfl
      show sameR (bdA sz len) (((l1 ++ e :: l2).map (gE xss)).eraseIdx l1.length) (m.map (·.1)) = true ↔ _
      rw [he, ih]
      have hun : ∀ f ∈ l1, bdE sz len xss f e = false := fun f hf => by
        cases q : bdE sz len xss f e with
        | false => rfl
        | true => exact absurd (List.any_eq_true.2 ⟨f, hf, q⟩) z
      constructor
      · exact fun q => ⟨l1, l2, rfl, hun, q⟩
      · rintro ⟨k1, k2, q1, q2, q3⟩
        have e1 : l1 = k1 := by
          have t1 : (l1 ++ e :: l2).takeWhile (fun x => decide (x ≠ e)) = l1 := by
            rw [List.takeWhile_append_of_pos (fun x hx => decide_eq_true (show x ≠ e from fun q => n2 (by rw [← q]; exact hx))), List.takeWhile_cons_of_neg (by simp)]; simp
          have t2 : (l1 ++ e :: l2).takeWhile (fun x => decide (x ≠ e)) = k1 := by
            rw [q1] at nd ⊢
            obtain ⟨_, m2, _⟩ := nodup_mid nd
            rw [List.takeWhile_append_of_pos (fun x hx => decide_eq_true (show x ≠ e from fun q => m2 (by rw [← q]; exact hx))), List.takeWhile_cons_of_neg (by simp)]; simp
          exact t1.symm.trans t2
        subst e1
        have := List.append_cancel_left q1
        cases this
        exact q3

/-! ### normal forms -/
theorem stF_map {α β : Type} (g : α → β) (bd : β → β → Bool) (S : List (α × Nat)) (e : α) : stF bd (S.map fun c => (g c.1, c.2)) (g e) = stF (fun a b => bd (g a) (g b)) S e := by
  induction S using rev_ind with
  | nil => rfl
  | append_singleton S c ih =>
    rw [List.map_append, List.map_singleton, stF_snoc, stF_snoc, ih]
theorem steps_map {α β : Type} (g : α → β) (bd : β → β → Bool) (l : List α) : steps bd (l.map g) = (steps (fun a b => bd (g a) (g b)) l).map fun c => (g c.1, c.2) := by
  induction l using rev_ind with
  | nil => rfl
  | append_singleton l e ih =>
    rw [List.map_append, List.map_singleton, steps_snoc, steps_snoc, ih, List.map_append, List.map_singleton, stF_map]
theorem foaS_ev {sz len : Int} {xss : List (List Ac)} {ps : List Int} : steps (bdA sz len) (rowP xss ps ps.length) = (steps (bdE sz len xss) (evL ps)).map fun c => (gE xss c.1, c.2) := by
  rw [evL_rows, steps_map]; rfl
theorem steps_nodup {α : Type} (bd : α → α → Bool) {l : List α} (nd : l.Nodup) : (steps bd l).Nodup := by
  have : ((steps bd l).map (·.1)).Nodup := by rw [steps_fst]; exact nd
  rw [List.Nodup, List.pairwise_map] at this
  exact this.imp fun h e => h (by rw [e])
abbrev formP (S : List (Rc × Nat)) (nA : Nat) : List (List Int) := (List.range (formR S).length).map (refRow S nA)
theorem formP_perm {S S' : List (Rc × Nat)} {nA : Nat} (h : S.Perm S') (hS : ∀ c ∈ S, 0 ≤ c.1.1 ∧ c.1.1 < (nA : Int)) : formP S nA = formP S' nA := by
  have hl : (formR S).length = (formR S').length := by
    have h1 := formR_len S (formR S').length fun c hc => formR_lt S' c (h.subset hc)
    have h2 := formR_len S' (formR S).length fun c hc => formR_lt S c (h.symm.subset hc)
    omega
  unfold formP
  rw [hl]
  refine List.map_congr_left fun n _ => ?_
  refine sorted_one ?_ (refRow_sort S nA n) (refRow_sort S' nA n)
  have p : (rawR S n).Perm (rawR S' n) := (h.filter _).map _
  exact (refRow_perm hS n).trans (p.trans (refRow_perm (fun c hc => hS c (h.symm.subset hc)) n).symm)
theorem formP_mem {S : List (Rc × Nat)} {nA : Nat} (hS : ∀ c ∈ S, 0 ≤ c.1.1 ∧ c.1.1 < (nA : Int)) (w : Int) (n : Nat) : (∃ c ∈ S, c.2 = n ∧ c.1.1 = w) ↔ ∃ row, (formP S nA)[n]? = some row ∧ w ∈ row := by
  have hr : w ∈ refRow S nA n ↔ ∃ c ∈ S, c.2 = n ∧ c.1.1 = w := by
    rw [(refRow_perm hS n).mem_iff]
    unfold rawR
    rw [List.mem_map]
    constructor
    · rintro ⟨c, hc, e⟩
      obtain ⟨h1, h2⟩ := List.mem_filter.1 hc
      exact ⟨c, h1, of_decide_eq_true h2, e⟩
    · rintro ⟨c, h1, h2, h3⟩
      exact ⟨c, List.mem_filter.2 ⟨h1, decide_eq_true h2⟩, h3⟩
  rw [← hr]
  constructor
  · intro h
    obtain ⟨c, h1, h2, h3⟩ := hr.1 h
    have := formR_lt S c h1
    exact ⟨refRow S nA n, by unfold formP; rw [List.getElem?_map, List.getElem?_range (by omega)]; rfl, h⟩
  · rintro ⟨row, h1, h2⟩
    unfold formP at h1
    rw [List.getElem?_map] at h1
    cases e : (List.range (formR S).length)[n]? with
    | none => rw [e] at h1; cases h1
    | some k =>
      rw [e] at h1
      have hk := (List.getElem?_eq_some_iff.1 e).2
      rw [List.getElem_range] at hk
      have h1 : refRow S nA k = row := Option.some.inj h1
      rw [← hk] at h1
      rw [h1]; exact h2
/-- An actor as a number. -/
def whoZ (e : Ev) : Nat := if 0 ≤ e.1 then 2 * e.1.toNat else 2 * (-e.1).toNat + 1
theorem whoZ_inj {a b : Ev} (h : whoZ a = whoZ b) : a.1 = b.1 := by
  unfold whoZ at h
  by_cases x : 0 ≤ a.1 <;> by_cases y : 0 ≤ b.1
  · rw [if_pos x, if_pos y] at h; omega
  · rw [if_pos x, if_neg y] at h; omega
  · rw [if_neg x, if_pos y] at h; omega
  · rw [if_neg x, if_neg y] at h; omega
theorem whoZ_filter {l m : List Ev} (hl : ∀ e ∈ l, 0 ≤ e.1) (hm : ∀ e ∈ m, 0 ≤ e.1) (h : ∀ w, l.filter (fun e => decide (whoE e = w)) = m.filter fun e => decide (whoE e = w)) (w : Nat) : l.filter (fun e => decide (whoZ e = w)) = m.filter fun e => decide (whoZ e = w) := by
  have key : ∀ {l : List Ev}, (∀ e ∈ l, 0 ≤ e.1) → l.filter (fun e => decide (whoZ e = w)) = if w % 2 = 0 then l.filter (fun e => decide (whoE e = w / 2)) else [] := fun {l} hl => by
    by_cases z : w % 2 = 0
    · rw [if_pos z]
      refine List.filter_congr fun e he => ?_
      have := hl e he
      rw [decide_eq_decide]
      unfold whoZ whoE
      rw [if_pos this]
      omega
    · rw [if_neg z, List.filter_eq_nil_iff]
      intro e he
      have := hl e he
      simp only [decide_eq_true_eq]
      unfold whoZ
      rw [if_pos this]
      omega
  rw [key hl, key hm, h]
/-- Scripts have the same form just if they are alike. -/
theorem form_alk {sz len : Int} {xss : List (List Ac)} {ps qs : List Int} (hp : ScriptP (xss.map List.length) ps) (hq : ScriptP (xss.map List.length) qs) :
    formP (steps (bdA sz len) (rowP xss ps ps.length)) xss.length = formP (steps (bdA sz len) (rowP xss qs qs.length)) xss.length ↔ Alk (bdE sz len xss) (evL ps) (evL qs) := by
  have s2 := hp.same2 hq
  have np := evL_nodup s2.p0
  have nq := evL_nodup s2.q0
  have rng : ∀ {ps : List Int}, ScriptP (xss.map List.length) ps → ∀ c ∈ steps (bdA sz len) (rowP xss ps ps.length), 0 ≤ c.1.1 ∧ c.1.1 < (xss.length : Int) := fun {ps} h c hc => by
    have hin := h.1
    rw [List.length_map] at hin
    have hm := steps_mem _ hc
    unfold rowP at hm
    obtain ⟨j, hj, e⟩ := List.mem_map.1 hm
    have hj := List.mem_range.1 hj
    rw [← e]
    show 0 ≤ (ps[j]?).getD 0 ∧ (ps[j]?).getD 0 < _
    rw [List.getElem?_eq_getElem hj]
    exact hin _ (List.getElem_mem hj)
  constructor
  · intro h
    refine alk_form (bdE sz len xss) whoZ (fun a b e => bdE_fst (whoZ_inj e)) (bdE_sym sz len xss) np s2.perm (whoZ_filter (fun e he => ((evL_mem s2.p0 e).1 he).1) (fun e he => ((evL_mem s2.q0 e).1 he).1) s2.filt) ?_
    have one : ∀ {ps qs : List Int}, ScriptP (xss.map List.length) ps → ScriptP (xss.map List.length) qs → formP (steps (bdA sz len) (rowP xss ps ps.length)) xss.length = formP (steps (bdA sz len) (rowP xss qs qs.length)) xss.length → ∀ w n, AtS (bdE sz len xss) whoZ (evL ps) w n → AtS (bdE sz len xss) whoZ (evL qs) w n := fun {ps qs} hp hq h w n ⟨e, h1, h2⟩ => by
      have m1 : ∃ c ∈ steps (bdA sz len) (rowP xss ps ps.length), c.2 = n ∧ c.1.1 = e.1 := by
        rw [foaS_ev]
        exact ⟨_, List.mem_map_of_mem h1, rfl, rfl⟩
      have m2 := (formP_mem (rng hp) e.1 n).1 m1
      rw [h] at m2
      obtain ⟨c, c1, c2, c3⟩ := (formP_mem (rng hq) e.1 n).2 m2
      rw [foaS_ev] at c1
      obtain ⟨d, d1, rfl⟩ := List.mem_map.1 c1
      refine ⟨d.1, by rw [← c2]; exact d1, ?_⟩
      have c3 : d.1.1 = e.1 := c3
      rw [← h2]
      unfold whoZ
      rw [c3]
    exact fun w n => ⟨one hp hq h w n, one hq hp h.symm w n⟩
  · intro h
    have h' := h.symm _ (bdE_sym sz len xss) np
    have pm : (steps (bdE sz len xss) (evL ps)).Perm (steps (bdE sz len xss) (evL qs)) :=
      (List.perm_ext_iff_of_nodup (steps_nodup _ np) (steps_nodup _ nq)).2 fun c => ⟨fun hc => steps_alk _ (bdE_sym sz len xss) np h c.1 c.2 hc, fun hc => steps_alk _ (bdE_sym sz len xss) nq h' c.1 c.2 hc⟩
    refine formP_perm ?_ (rng hp)
    rw [foaS_ev, foaS_ev]
    exact pm.map _
end Go.Mx

namespace Go.Mx

section
variable {h0 h : Heap} {sc : Sc} {l : List Rc} {rl : Sl} {cB : Sc → Rc → Rc → Heap → (Bool → Heap → Prop) → Prop}
theorem first_spec (nl : Arr h kref22Act rl l) (hl : l.length ≤ 1000000) (w : Int) {bd : Rc → Rc → Bool}
    (iB : ∀ {a b : Rc} {h : Heap} {Q : Bool → Heap → Prop}, Q (bd a b) h → cB sc a b h Q) {Q : Int → Heap → Prop} (hQ : Q (match firstR bd w l with | none => -1 | some k => (k : Int)) h) : ref22_first.M cB sc rl w h Q := by
  have hll := nl.1
  refine Loop.up l.length (fun s => s.1) (fun i st k => k = h ∧ ∀ a ∈ l.take i, a.1 ≠ w) rfl ⟨rfl, fun a ha => (by cases ha)⟩ ?_
  rintro i ⟨i', u⟩ k go hi hcc ⟨rfl, hI⟩ hgo
  dsimp only at hcc; subst hcc
  refine dcs (fun e => ?_) (fun e => ?_)
  · have e : (i : Int) < (rl.len : Int) := e
    have hil : i < l.length := by omega
    refine ⟨⟨Int.natCast_nonneg i, e⟩, nl.part (kp := ki) (f := fun a : Rc => a.1) (Int.natCast_nonneg i) e (off := 0) rfl (fun x => ⟨[], (Kd.cells kref22Act x).drop 1, rfl, rfl⟩) fun y hy => ?_⟩
    rw [Int.toNat_natCast, List.getElem?_eq_getElem hil] at hy
    have hy := Option.some.inj hy
    subst hy
    refine dcs (fun e2 => hgo hil _ _ (w64_up' (n := l.length) hil (by omega)) ⟨rfl, ?_⟩) (fun e2 => ?_)
    · rw [take_succ' l hil]
      intro a ha
      rcases List.mem_append.1 ha with ha | ha
      · exact hI a ha
      · have : a = l[i] := by simpa using ha
        rw [this]; exact e2
    · have e2 : l[i].1 = w := Decidable.not_not.1 e2
      subst e2
      have hsp : l = l.take i ++ l[i] :: l.drop (i + 1) := by rw [← List.drop_eq_getElem_cons, List.take_append_drop]
      have hfr := firstR_at (bd := bd) (l1 := l.take i) (l2 := l.drop (i + 1)) (a := l[i]) hI
      rw [← hsp, List.length_take, Nat.min_eq_left (by omega)] at hfr
      rw [hfr] at hQ
      refine Loop.up i (fun s => s.1) (fun j st k' => k' = k ∧ ∀ a ∈ l.take j, bd a l[i] = false) rfl ⟨rfl, fun a ha => (by cases ha)⟩ ?_
      rintro j ⟨j', u2⟩ k' go2 hj hcj ⟨rfl, hJ⟩ hgo2
      dsimp only at hcj; subst hcj
      refine dcs (fun e3 => ?_) (fun e3 => ?_)
      · have e3 : (j : Int) < (i : Int) := e3
        have hji : j < i := by omega
        obtain ⟨al, hal⟩ := nl.addr (by omega)
        refine ⟨⟨Int.natCast_nonneg j, show (j : Int) < (rl.len : Int) by omega⟩, ?_⟩
        rw [hal]
        simp only [deref]
        refine ⟨⟨Int.natCast_nonneg i, e⟩, ?_⟩
        rw [Int.toNat_natCast, Int.toNat_natCast]
        refine nl.ldAt (k := kref22Act) hal (List.getElem?_eq_getElem (by omega)) rfl (nl.ldAt (k := kref22Act) hal (List.getElem?_eq_getElem hil) rfl (iB (bcs (fun z => ?_) (fun z => ?_))))
        · have : (l.take i).any (fun b => bd b l[i]) = true := by
            rw [List.any_eq_true]
            exact ⟨l[j], by rw [List.mem_take_iff_getElem]; exact ⟨j, by omega, rfl⟩, z⟩
          rw [if_pos this] at hQ
          exact hQ
        · refine hgo2 hji _ _ (w64_up' (n := i) hji (by omega)) ⟨rfl, ?_⟩
          rw [take_succ' l (by omega)]
          intro a ha
          rcases List.mem_append.1 ha with ha | ha
          · exact hJ a ha
          · have : a = l[j] := by simpa using ha
            rw [this]; exact z
      · have e3 : ¬ (j : Int) < (i : Int) := e3
        obtain rfl : j = i := by omega
        have : ¬ (l.take j).any (fun b => bd b l[j]) = true := by
          intro z
          obtain ⟨b, hb, q⟩ := List.any_eq_true.1 z
          rw [hJ b hb] at q; cases q
        rw [if_neg this] at hQ
        exact hQ
  · have e : ¬ (i : Int) < (rl.len : Int) := e
    rw [List.take_of_length_le (by omega)] at hI
    have hf : firstR bd w l = none := by
      unfold firstR
      have : l.findIdx? (fun a => decide (a.1 = w)) = none := by
        rw [List.findIdx?_eq_none_iff]
        intro a ha
        simpa using hI a ha
      rw [this]
    rw [hf] at hQ
    exact hQ
theorem without_spec (nl : Arr h kref22Act rl l) (hl : l.length ≤ 1000000) {at' : Nat} {Q : Sl → Heap → Prop} (hQ : ∀ t h', New h h' kref22Act t (l.eraseIdx at') → Q t h') : ref22_without.M rl (at' : Int) h Q := by
  have hll := nl.1
  refine Loop.up l.length (fun s => s.2.1) (fun i st k => New h k kref22Act st.1 ((l.take i).eraseIdx at')) rfl (New.none (le.refl _) _) ?_
  rintro i ⟨t, i', u⟩ k go hi hcc n hgo
  dsimp only at hcc n; subst hcc
  refine dcs (fun e => ?_) (fun e => ?_)
  · have e : (i : Int) < (rl.len : Int) := e
    have hil : i < l.length := by omega
    have htl : (l.take i).length = i := by rw [List.length_take]; omega
    have nx : ∀ t' k', New h k' kref22Act t' ((l.take (i + 1)).eraseIdx at') → ref22_without.j1 go (t, ((i : Int), u)) (t', ()) k' := fun t' k' q2 => hgo hil _ _ (w64_up' (n := l.length) hil (by omega)) q2
    refine dcs (fun e2 => ?_) (fun e2 => nx t k ?_)
    · have e2 : (i : Int) ≠ (at' : Int) := e2
      refine ⟨⟨Int.natCast_nonneg i, e⟩, (nl.le n.le).at (Int.natCast_nonneg i) e rfl fun y hy => ?_⟩
      rw [Int.toNat_natCast, List.getElem?_eq_getElem hil] at hy
      have hy := Option.some.inj hy
      subst hy
      have hnl := n.len
      have hel := List.length_eraseIdx_le (l.take i) at'
      refine n.app (k := kref22Act) (x := l[i]) rfl rfl (by omega) fun t2 h2 n2 => nx t2 h2 ?_
      rw [take_succ' l hil]
      by_cases c : at' < i
      · rw [List.eraseIdx_append_of_lt_length (by omega)]; exact n2
      · rw [List.eraseIdx_of_length_le (by omega)] at n2
        rw [List.eraseIdx_of_length_le (by rw [List.length_append, htl, List.length_singleton]; omega)]
        exact n2
    · have e2 : (i : Int) = (at' : Int) := Decidable.not_not.1 e2
      obtain rfl : i = at' := by omega
      rw [take_succ' l hil, List.eraseIdx_append_of_length_le (by omega), htl, Nat.sub_self]
      rw [List.eraseIdx_of_length_le (by omega)] at n
      simpa using n
  · have e : ¬ (i : Int) < (rl.len : Int) := e
    rw [List.take_of_length_le (by omega)] at n
    exact hQ t k n
theorem rsame_spec {bd : Rc → Rc → Bool} {p q : Sl} {qs : List Int} (hq : Arr h ki q qs) (hqn : qs.length ≤ 1000000) (hl : l.length ≤ 1000000)
    {cR : Sc → Sl → Heap → (Sl → Heap → Prop) → Prop} {cF : Sc → Sl → Int → Heap → (Int → Heap → Prop) → Prop} {cW : Sl → Int → Heap → (Sl → Heap → Prop) → Prop}
    (iR : ∀ {Q : Sl → Heap → Prop}, (∀ t h', New h h' kref22Act t l → Q t h') → cR sc p h Q)
    (iF : ∀ {h : Heap} {rl : Sl} {l : List Rc} {w : Int} {Q : Int → Heap → Prop}, Arr h kref22Act rl l → l.length ≤ 1000000 → Q (match firstR bd w l with | none => -1 | some k => (k : Int)) h → cF sc rl w h Q)
    (iW : ∀ {h : Heap} {rl : Sl} {l : List Rc} {k : Nat} {Q : Sl → Heap → Prop}, Arr h kref22Act rl l → l.length ≤ 1000000 → (∀ t h', New h h' kref22Act t (l.eraseIdx k) → Q t h') → cW rl (k : Int) h Q)
    {Q : Bool → Heap → Prop} (hQ : ∀ h', le h h' → Q (sameR bd l qs) h') : ref22_same.M cR cF cW sc p q h Q := by
  have hql := hq.1
  refine iR fun t h1 n1 => ?_
  refine Loop.up qs.length (fun s => s.2.1) (fun i st k => ∃ l', New h k kref22Act st.1 l' ∧ l'.length ≤ 1000000 ∧ sameR bd l qs = sameR bd l' (qs.drop i)) rfl ⟨l, n1, hl, rfl⟩ ?_
  rintro i ⟨t2, i', u⟩ k go hi hcc ⟨l', n, hl', hs⟩ hgo
  dsimp only at hcc n; subst hcc
  refine dcs (fun e => ?_) (fun e => ?_)
  · have e : (i : Int) < (q.len : Int) := e
    have hil : i < qs.length := by omega
    refine ⟨⟨Int.natCast_nonneg i, e⟩, (hq.le n.le).at (Int.natCast_nonneg i) e rfl fun w hw => ?_⟩
    rw [Int.toNat_natCast, List.getElem?_eq_getElem hil] at hw
    have hw := Option.some.inj hw
    subst hw
    rw [List.drop_eq_getElem_cons hil] at hs
    refine iF n.arr hl' ?_
    have hs : sameR bd l qs = match firstR bd qs[i] l' with
      | none => false
      | some k => sameR bd (l'.eraseIdx k) (qs.drop (i + 1)) := hs
    cases hf : firstR bd qs[i] l' with
    | none =>
      rw [hf] at hs
      refine dcs (fun _ => ?_) (fun z => absurd (show (-1 : Int) < 0 by decide) z)
      have hs : sameR bd l qs = false := hs
      rw [← hs]
      exact hQ k n.le
    | some m =>
      rw [hf] at hs
      refine dcs (fun z => absurd (show (m : Int) < 0 from z) (by omega)) (fun _ => ?_)
      refine iW n.arr hl' fun t3 h3 n3 => ?_
      have hel := List.length_eraseIdx_le l' m
      exact hgo hil _ _ (w64_up' (n := qs.length) hil (by omega)) ⟨_, n3.base n.le, by omega, hs⟩
  · have e : ¬ (i : Int) < (q.len : Int) := e
    rw [List.drop_of_length_le (by omega)] at hs
    have hs : sameR bd l qs = true := hs
    rw [← hs]
    exact hQ k n.le
end

/-- What Alike answers. -/
def AlR (sz : Int) (nb : Nat) (xss : List (List Ac)) (ps qs : List Int) (b : Bool) (e : Int) : Prop :=
  ∃ e0, Rdy sz nb xss ps e0 ∧ ((e0 ≠ 0 ∧ b = false ∧ e = e0) ∨ (e0 = 0 ∧ ¬ ScriptP (xss.map List.length) qs ∧ b = false ∧ e = 220) ∨ (e0 = 0 ∧ ScriptP (xss.map List.length) qs ∧ e = 0 ∧ (b = true ↔ Alk (bdE sz nb xss) (evL ps) (evL qs))))
theorem AlR.one {sz : Int} {nb : Nat} {xss : List (List Ac)} {ps qs : List Int} {b b' : Bool} {e e' : Int} (x : AlR sz nb xss ps qs b e) (y : AlR sz nb xss ps qs b' e') : b = b' ∧ e = e' := by
  obtain ⟨e0, x1, x2⟩ := x
  obtain ⟨e1, y1, y2⟩ := y
  obtain rfl := x1.one y1
  rcases x2 with ⟨a1, a2, a3⟩ | ⟨a1, a2, a3, a4⟩ | ⟨a1, a2, a3, a4⟩ <;> rcases y2 with ⟨b1, b2, b3⟩ | ⟨b1, b2, b3, b4⟩ | ⟨b1, b2, b3, b4⟩
  · exact ⟨a2.trans b2.symm, a3.trans b3.symm⟩
  · exact absurd b1 a1
  · exact absurd b1 a1
  · exact absurd a1 b1
  · exact ⟨a3.trans b3.symm, a4.trans b4.symm⟩
  · exact absurd b2 a2
  · exact absurd a1 b1
  · exact absurd a2 b2
  · exact ⟨by rw [Bool.eq_iff_iff, a4, b4], a3.trans b3.symm⟩

theorem moved_spec2 {h0 h : Heap} {c : Sc} {cls : List Sl} {mk : Sl} {bs : List Int} {xss : List (List Ac)} (o : Scn h0 h c cls mk bs xss) (hs : Small bs xss) {Q : Unit → Heap → Prop}
    (hQ : ∀ h' bs' xss', Scn h0 h' c cls mk bs' xss' → bs.length = bs'.length → Like xss xss' → Ext (fpS c cls) h h' → Q () h') : law22_moved.M c h Q := by
  refine Loop.up c.2.1.len (fun s => s.1) (fun i s k => ∃ bs', Scn h0 k c cls mk bs' xss ∧ bs.length = bs'.length ∧ Ext (fpS c cls) h k) rfl ⟨bs, o, rfl, .refl _ _⟩ ?_
  rintro i ⟨j, u⟩ k go hi hc ⟨bs', ho, hl, hX⟩ hgo
  dsimp only at hc; subst hc
  have hbl : c.2.1.len = bs'.length := ho.beg.len.symm
  refine ⟨fun q => ?_, fun q => ?_⟩
  · have q : (i : Int) < (c.2.1.len : Int) := of_decide_eq_true q
    have q' : i < c.2.1.len := by omega
    refine ⟨⟨Int.natCast_nonneg i, q⟩, ho.beg.arr.at (Int.natCast_nonneg i) q rfl fun x hx => ?_⟩
    refine ⟨⟨Int.natCast_nonneg i, q⟩, ho.beg.set (Int.natCast_nonneg i) q rfl rfl fun h' b e => ?_⟩
    exact hgo q' _ _ (w64_up q' (by rw [hbl, ← hl]; exact hs.1)) ⟨_, ho.begin b e, by simp [hl], hX.trans (e.mono fun x q => .inl q)⟩
  clear q hgo hi hbl
  have hs : Small bs' xss := ⟨hl ▸ hs.1, hs.2⟩
  refine Loop.up c.2.2.1.len (fun s => s.1) (fun i s k => ∃ xss', Scn h0 k c cls mk bs' xss' ∧ Like xss xss' ∧ Ext (fpS c cls) h k) rfl ⟨xss, ho, .refl _, hX⟩ ?_
  rintro i ⟨j, u⟩ k go hi hc ⟨xs1, ho, hk, hX⟩ hgo
  dsimp only at hc; subst hc
  have hll : c.2.2.1.len = cls.length := ho.ls.len.symm
  refine ⟨fun q => ?_, fun q => ?_⟩
  · have q : (i : Int) < (c.2.2.1.len : Int) := of_decide_eq_true q
    have q' : i < c.2.2.1.len := by omega
    have hi1 : i < xs1.length := by rw [← ho.len]; omega
    have hcl : cls[i]? = some cls[i] := by simp
    obtain ⟨xs, hxs⟩ : ∃ xs, xss[i]? = some xs := ⟨xss[i]'(by rw [hk.len]; exact hi1), by simp⟩
    have hn : xs.length ≤ 1048576 := hs.at hxs
    refine Loop.up xs.length (fun s => s.1) (fun j s k => ∃ xss', Scn h0 k c cls mk bs' xss' ∧ Like xss xss' ∧ Ext (fpS c cls) h k) rfl ⟨xs1, ho, hk, hX⟩ ?_
    rintro j ⟨j', u'⟩ k2 go2 hj hc ⟨xs2, ho, hk, hX⟩ hgo2
    dsimp only at hc; subst hc
    have hi2 : i < xs2.length := by rw [← ho.len]; omega
    have hx2 : xs2[i]? = some xs2[i] := by simp
    have hrow := ho.row i _ _ hcl hx2
    have hxl : xs2[i].length = xs.length := (hk.at hxs hx2).symm
    have hlen : cls[i].len = xs.length := by rw [← hrow.len, hxl]
    have rd : ∀ {h : Heap} {ys : List (List Ac)} {K : Sl → Prop}, Scn h0 h c cls mk bs' ys → K cls[i] → (0 ≤ (i : Int) ∧ (i : Int) < (c.2.2.1.len : Int)) ∧ deref c.2.2.1.a fun a => ld (.sl : Kd) h (a.add ((i : Int).toNat * 1)) K := by
      intro h ys K o hK
      refine ⟨⟨Int.natCast_nonneg i, q⟩, o.ls.arr.at (Int.natCast_nonneg i) q rfl fun x hx => ?_⟩
      rw [Int.toNat_natCast, hcl] at hx
      cases hx
      exact hK
    refine rd ho ⟨fun e => ?_, fun e => ?_⟩
    · · have e : (j : Int) < (cls[i].len : Int) := of_decide_eq_true e
        have e' : j < xs.length := by omega
        refine rd ho (rd ho ⟨⟨Int.natCast_nonneg j, e⟩, ?_⟩)
        refine hrow.arr.part (kp := ki) (f := fun x => x.2.1) (Int.natCast_nonneg j) e rfl ac_kind fun x hx => ?_
        refine ⟨by decide, ⟨Int.natCast_nonneg j, e⟩, ?_⟩
        refine hrow.setPart (kp := ki) (Int.natCast_nonneg j) e hx (y' := (x.1, (Int.tmod (w64 ((x.2.1 : Int) + 1)) 5, x.2.2))) rfl (by decide) rfl rfl fun h' b ex => ?_
        have ho' := ho.rowed hcl b ex
        have hk' := hk.set (xs := xs2[i].set (j : Int).toNat (x.1, (Int.tmod (w64 ((x.2.1 : Int) + 1)) 5, x.2.2))) hx2 (by simp)
        refine rd ho' (rd ho' ⟨⟨Int.natCast_nonneg j, e⟩, ?_⟩)
        refine b.arr.part (kp := ki) (f := fun x => x.2.2.2.1) (Int.natCast_nonneg j) e rfl ac_val fun y hy => ?_
        refine ⟨⟨Int.natCast_nonneg j, e⟩, ?_⟩
        refine b.setPart (kp := ki) (Int.natCast_nonneg j) e hy (y' := (y.1, (y.2.1, (y.2.2.1, (w64 ((y.2.2.2.1 : Int) + 1), y.2.2.2.2))))) rfl (by decide) rfl rfl fun h2 b2 ex2 => ?_
        refine hgo2 e' _ _ (w64_up e' hn) ⟨_, ho'.rowed hcl b2 ex2, hk'.set (by rw [List.getElem?_set_self hi2]) (by simp), (hX.trans (ex.mono fun x q => .inr ⟨_, List.mem_of_getElem? hcl, q⟩)).trans (ex2.mono fun x q => .inr ⟨_, List.mem_of_getElem? hcl, q⟩)⟩
    · · have e : ¬ (j : Int) < (cls[i].len : Int) := of_decide_eq_false e
        exact hgo q' _ _ (w64_up q' (by rw [hll, ho.len, ← hk.len]; exact hs.2.1)) ⟨_, ho, hk, hX⟩
  · exact hQ _ _ _ ho hl hk hX

end Go.Mx
