/-
  The least words: the reference's least; which scripts are least.
  Explore: sleeping actors; which scripts come.
-/
import Derived.Test.YtipihecaaakagaaMxKm
set_option linter.unusedVariables false
set_option linter.unusedSimpArgs false
set_option linter.unusedSectionVars false
namespace Go.Mx

/-- The least word that is alike, as the reference makes it. -/
def leastR (bd : Rc → Rc → Bool) (nA : Nat) : Nat → List Rc → List Int
  | 0, _ => []
  | n + 1, l => match (List.range nA).find? fun w : Nat => (firstR bd (w : Int) l).isSome with
    | none => []
    | some w => (w : Int) :: leastR bd nA n (l.eraseIdx ((firstR bd (w : Int) l).getD 0))
def isLst (sz len : Int) (xss : List (List Ac)) (q : List Int) : Bool := decide (leastR (bdA sz len) xss.length q.length (rowP xss q q.length) = q)
/-- What Explore tells. -/
def expS (sz len : Int) (xss : List (List Ac)) : List (List Int) := (allS xss).filter (isLst sz len xss)

section
variable {sz len : Int} {xss : List (List Ac)}
theorem firstR_ev {es : List Ev} {l1 l2 : List Ev} {e : Ev} (hes : es = l1 ++ e :: l2) (h : ∀ f ∈ l1, f.1 ≠ e.1) : firstR (bdA sz len) e.1 (es.map (gE xss)) = if l1.any (fun f => bdE sz len xss f e) = true then none else some l1.length := by
  subst hes
  rw [List.map_append, List.map_cons]
  have := firstR_at (bd := bdA sz len) (l1 := l1.map (gE xss)) (l2 := l2.map (gE xss)) (a := gE xss e) (fun b hb => by
    obtain ⟨f, hf, rfl⟩ := List.mem_map.1 hb
    exact h f hf)
  rw [List.length_map, List.any_map] at this
  exact this
theorem firstR_none {w : Int} {l : List Rc} {bd : Rc → Rc → Bool} (h : ∀ a ∈ l, a.1 ≠ w) : firstR bd w l = none := by
  unfold firstR
  have : l.findIdx? (fun a => decide (a.1 = w)) = none := by
    rw [List.findIdx?_eq_none_iff]
    intro a ha
    exact decide_eq_false (h a ha)
  rw [this]
theorem least_spec (h4 : ∀ (e : Ev), True) : ∀ (n : Nat) (es : List Ev), es.length = n → es.Nodup → (∀ e ∈ es, 0 ≤ e.1 ∧ e.1 < (xss.length : Int)) →
    ∃ m : List Ev, leastR (bdA sz len) xss.length n (es.map (gE xss)) = m.map (·.1) ∧ Alk (bdE sz len xss) es m ∧ NbS (bdE sz len xss) whoE m
  | 0, es, hn, _, _ => by
    have : es = [] := List.eq_nil_of_length_eq_zero hn
    subst this
    exact ⟨[], rfl, rfl, trivial⟩
  | n + 1, es, hn, nd, hin => by
    have sy := bdE_sym sz len xss
    cases hes : es with
    | nil => rw [hes] at hn; cases hn
    | cons e0 es' =>
      have h0 := hin e0 (by rw [hes]; simp)
      have hex : ∃ w, (List.range xss.length).find? (fun w : Nat => (firstR (bdA sz len) (w : Int) (es.map (gE xss))).isSome) = some w := by
        cases hf : (List.range xss.length).find? (fun w : Nat => (firstR (bdA sz len) (w : Int) (es.map (gE xss))).isSome) with
        | some w => exact ⟨w, rfl⟩
        | none =>
          exfalso
          rw [List.find?_eq_none] at hf
          have := hf e0.1.toNat (List.mem_range.2 (by omega))
          apply this
          have e1 : ((e0.1.toNat : Nat) : Int) = e0.1 := by omega
          rw [e1, firstR_ev (l1 := []) (l2 := es') hes (fun f hf => by cases hf)]
          rfl
      obtain ⟨w, hw⟩ := hex
      have hw2 := List.find?_range_eq_some.1 hw
      obtain ⟨hs, hwr, hmin⟩ := hw2
      have hwr := List.mem_range.1 hwr
      -- the actor's first act
      have hact : ∃ e ∈ es, e.1 = (w : Int) := by
        refine Classical.byContradiction fun hno => ?_
        have : firstR (bdA sz len) (w : Int) (es.map (gE xss)) = none := firstR_none fun a ha => by
          obtain ⟨f, hf, rfl⟩ := List.mem_map.1 ha
          exact fun q => hno ⟨f, hf, q⟩
        rw [this] at hs; cases hs
      obtain ⟨l1, e, l2, hsp, hfst, hl1⟩ : ∃ l1 e l2, es = l1 ++ e :: l2 ∧ e.1 = (w : Int) ∧ ∀ f ∈ l1, f.1 ≠ (w : Int) := by
        clear hn nd hin hes hw hs hmin
        induction es with
        | nil => obtain ⟨e, he, _⟩ := hact; cases he
        | cons a es ih =>
          by_cases z : a.1 = (w : Int)
          · exact ⟨[], a, es, rfl, z, fun f hf => by cases hf⟩
          · obtain ⟨e, he, hw⟩ := hact
            rcases List.mem_cons.1 he with rfl | he
            · exact absurd hw z
            · obtain ⟨l1, e', l2, h1, h2, h3⟩ := ih ⟨e, he, hw⟩
              refine ⟨a :: l1, e', l2, by rw [h1]; rfl, h2, fun f hf => ?_⟩
              rcases List.mem_cons.1 hf with rfl | hf
              · exact z
              · exact h3 f hf
      have hfr := firstR_ev (sz := sz) (len := len) (xss := xss) hsp (fun f hf => by rw [hfst]; exact hl1 f hf)
      rw [hfst] at hfr
      have hno : ¬ l1.any (fun f => bdE sz len xss f e) = true := fun q => by rw [if_pos q] at hfr; rw [hfr] at hs; cases hs
      rw [if_neg hno] at hfr
      have hind : ∀ f ∈ l1, bdE sz len xss f e = false := fun f hf => by
        cases hb : bdE sz len xss f e with
        | false => rfl
        | true => exact absurd (List.any_eq_true.2 ⟨f, hf, hb⟩) hno
      have nd2 := nd
      rw [hsp] at nd2
      obtain ⟨n1, n2, n3⟩ := nodup_mid nd2
      have hlen : (l1 ++ l2).length = n := by rw [hsp] at hn; simp at hn ⊢; omega
      obtain ⟨m, hm1, hm2, hm3⟩ := least_spec h4 n (l1 ++ l2) hlen n1 (fun f hf => hin f (by
        rw [hsp]; rcases List.mem_append.1 hf with q | q <;> simp [q]))
      have hA : Alk (bdE sz len xss) es (e :: m) := ⟨l1, l2, hsp, hind, hm2⟩
      rw [← hes]
      refine ⟨e :: m, ?_, hA, fun q2 x q3 hq hlt hqx => ?_, hm3⟩
      · unfold leastR
        rw [hw]
        show (w : Int) :: leastR (bdA sz len) xss.length n ((es.map (gE xss)).eraseIdx ((firstR (bdA sz len) (w : Int) (es.map (gE xss))).getD 0)) = _
        rw [hfr]
        have : (es.map (gE xss)).eraseIdx l1.length = (l1 ++ l2).map (gE xss) := by
          rw [hsp, List.map_append, List.map_cons, ← List.length_map (as := l1) (f := gE xss), List.eraseIdx_append_of_length_le (Nat.le_refl _), Nat.sub_self, List.eraseIdx_cons_zero, List.map_append]
        rw [Option.getD_some, this, hm1, List.map_cons, hfst]
      · have hxm : x ∈ es := (Alk.perm (bdE sz len xss) hA).symm.subset (by rw [hq]; simp)
        obtain ⟨k1, k2, hk⟩ := List.append_of_mem hxm
        have ndm : (e :: m).Nodup := ((Alk.perm (bdE sz len xss) hA).nodup_iff).1 nd
        rw [hq] at ndm
        have ndm' : ((e :: q2) ++ x :: q3).Nodup := ndm
        obtain ⟨_, x2, x3⟩ := nodup_mid ndm'
        have hso := ((alk_iff (bdE sz len xss) nd).1 hA).2
        have hk1 : ∀ f ∈ k1, bdE sz len xss f x = false := fun f hf => by
          cases hb : bdE sz len xss f x with
          | false => rfl
          | true =>
            have s1 : [f, x].Sublist es := by rw [hk]; exact pair_app.2 (.inr (.inl ⟨hf, by simp⟩))
            have s2 : [f, x].Sublist (e :: m) := hso f x hb s1
            rw [hq] at s2
            have s2 : [f, x].Sublist ((e :: q2) ++ x :: q3) := s2
            have hfq : f ∈ e :: q2 := by
              rcases pair_app.1 s2 with q | ⟨q, _⟩ | q
              · exact (pair_mem q).1
              · exact q
              · rcases pair_cons.1 q with ⟨_, q⟩ | q
                · exact absurd q x3
                · exact absurd (pair_mem q).2 x3
            have := hqx f hfq
            rw [hb] at this; cases this
        have hk1' : ∀ f ∈ k1, f.1 ≠ x.1 := fun f hf q => by
          have := hk1 f hf
          rw [bdE_fst q] at this; cases this
        have hx0 := hin x hxm
        have hx1 : ((whoE x : Nat) : Int) = x.1 := by show ((x.1.toNat : Nat) : Int) = x.1; omega
        have hwe : whoE e = w := by show e.1.toNat = w; rw [hfst]; exact Int.toNat_natCast w
        have := hmin (whoE x) (by omega)
        rw [hx1, firstR_ev hk hk1', if_neg (fun q => by
          obtain ⟨f, hf, hb⟩ := List.any_eq_true.1 q
          rw [hk1 f hf] at hb; cases hb)] at this
        cases this
theorem word_one : ∀ {a b : List Ev}, a.map (·.1) = b.map (·.1) → (∀ w, a.filter (fun e => decide (whoE e = w)) = b.filter fun e => decide (whoE e = w)) → a = b
  | [], [], _, _ => rfl
  | [], _ :: _, h, _ => by cases h
  | _ :: _, [], h, _ => by cases h
  | x :: a, y :: b, h, hf => by
    rw [List.map_cons, List.map_cons] at h
    have h1 := (List.cons.inj h).1
    have hw : whoE x = whoE y := by show x.1.toNat = y.1.toNat; rw [h1]
    have := hf (whoE x)
    rw [List.filter_cons_of_pos (by exact decide_eq_true rfl), List.filter_cons_of_pos (by exact decide_eq_true hw.symm)] at this
    have hxy := (List.cons.inj this).1
    subst hxy
    rw [word_one (List.cons.inj h).2 fun w => ?_]
    have := hf w
    by_cases z : whoE x = w
    · rw [List.filter_cons_of_pos (by exact decide_eq_true z), List.filter_cons_of_pos (by exact decide_eq_true z)] at this
      exact (List.cons.inj this).2
    · rw [List.filter_cons_of_neg (by simpa using z), List.filter_cons_of_neg (by simpa using z)] at this
      exact this
theorem alk_filt {es m : List Ev} (nd : es.Nodup) (h0 : ∀ e ∈ es, 0 ≤ e.1) (h : Alk (bdE sz len xss) es m) (w : Nat) : es.filter (fun e => decide (whoE e = w)) = m.filter fun e => decide (whoE e = w) := by
  induction m generalizing es with
  | nil => have : es = [] := h; rw [this]
  | cons e m ih =>
    obtain ⟨l1, l2, rfl, h2, h3⟩ := h
    obtain ⟨n1, n2, n3⟩ := nodup_mid nd
    have ih := ih n1 (fun f hf => h0 f (by rcases List.mem_append.1 hf with q | q <;> simp [q])) h3
    have hl : ∀ f ∈ l1, whoE f ≠ whoE e := fun f hf q => by
      have a1 := h0 f (by simp [hf])
      have a2 := h0 e (by simp)
      have : f.1 = e.1 := by have q : f.1.toNat = e.1.toNat := q; omega
      have h4 := h2 f hf
      rw [bdE_fst this] at h4; cases h4
    rw [List.filter_append] at ih
    rw [List.filter_append]
    by_cases z : whoE e = w
    · have : l1.filter (fun e => decide (whoE e = w)) = [] := by
        rw [List.filter_eq_nil_iff]
        intro f hf q
        exact hl f hf ((of_decide_eq_true q).trans z.symm)
      rw [this] at ih ⊢
      rw [List.filter_cons_of_pos (by exact decide_eq_true z), List.filter_cons_of_pos (by exact decide_eq_true z), ← ih]; rfl
    · rw [List.filter_cons_of_neg (by simpa using z), List.filter_cons_of_neg (by simpa using z), ih]
theorem nbS_congr {α : Type} {bd : α → α → Bool} {who who' : α → Nat} : ∀ {l : List α}, (∀ a ∈ l, ∀ b ∈ l, who a < who b ↔ who' a < who' b) → (NbS bd who l ↔ NbS bd who' l)
  | [], _ => Iff.rfl
  | y :: r, h => by
    have ih := nbS_congr (l := r) (bd := bd) fun a ha b hb => h a (List.mem_cons_of_mem _ ha) b (List.mem_cons_of_mem _ hb)
    show ((∀ q2 x q3, r = q2 ++ x :: q3 → who x < who y → (∀ f ∈ y :: q2, bd f x = false) → False) ∧ NbS bd who r) ↔ ((∀ q2 x q3, r = q2 ++ x :: q3 → who' x < who' y → (∀ f ∈ y :: q2, bd f x = false) → False) ∧ NbS bd who' r)
    rw [ih]
    have hx : ∀ q2 x q3, r = q2 ++ x :: q3 → (who x < who y ↔ who' x < who' y) := fun q2 x q3 e => h x (by rw [e]; simp) y (by simp)
    constructor
    · rintro ⟨a, b⟩
      exact ⟨fun q2 x q3 e g => a q2 x q3 e ((hx q2 x q3 e).2 g), b⟩
    · rintro ⟨a, b⟩
      exact ⟨fun q2 x q3 e g => a q2 x q3 e ((hx q2 x q3 e).1 g), b⟩
theorem whoZ_lt {a b : Ev} (ha : 0 ≤ a.1) (hb : 0 ≤ b.1) : whoE a < whoE b ↔ whoZ a < whoZ b := by
  unfold whoZ whoE
  rw [if_pos ha, if_pos hb]
  omega
theorem isLst_nb {q : List Int} (hin : InR xss.length q) : isLst sz len xss q = true ↔ NbS (bdE sz len xss) whoE (evL q) := by
  have h0 : ∀ p ∈ q, 0 ≤ p := fun p hp => (hin p hp).1
  have nd := evL_nodup h0
  have hpos : ∀ e ∈ evL q, 0 ≤ e.1 := fun e he => ((evL_mem h0 e).1 he).1
  have hrng : ∀ e ∈ evL q, 0 ≤ e.1 ∧ e.1 < (xss.length : Int) := fun e he => by
    have : e.1 ∈ q := by rw [← evL_fst q]; exact List.mem_map_of_mem he
    exact hin _ this
  obtain ⟨m, h1, h2, h3⟩ := least_spec (sz := sz) (len := len) (fun _ => trivial) q.length (evL q) (evL_len q) nd hrng
  unfold isLst
  rw [decide_eq_true_eq, evL_rows, h1]
  constructor
  · intro h
    have : m = evL q := (word_one (by rw [evL_fst, h]) fun w => (alk_filt nd hpos h2 w).symm)
    rw [← this]; exact h3
  · intro h
    have hm0 : ∀ e ∈ m, 0 ≤ e.1 := fun e he => hpos e ((Alk.perm (bdE sz len xss) h2).symm.subset he)
    have : evL q = m := nbS_one (bdE sz len xss) whoZ (fun a b hab => bdE_fst (whoZ_inj hab)) (bdE_sym sz len xss) nd h2 ((nbS_congr (fun a ha b hb => whoZ_lt (hpos a ha) (hpos b hb))).1 h) ((nbS_congr (fun a ha b hb => whoZ_lt (hm0 a ha) (hm0 b hb))).1 h3)
    rw [← this, evL_fst]
end
end Go.Mx

namespace Go.Mx

/-! ### slices that get shorter -/
theorem Own.chop {h : Heap} {k : Kd} {s : Sl} {xs : List (Den k)} (o : Own h k s xs) (hl : xs.length = s.len) {n : Nat} (hn : n ≤ s.len) {sz : Nat} : Own h k (s.cut 0 n sz) (xs.take n) ∧ (s.cut 0 n sz).len = n ∧ ∀ b, blkOf (s.cut 0 n sz) b → blkOf s b := by
  refine ⟨?_, by show n - 0 = n; omega, fun b hb => blk_cut hb⟩
  rcases o with ⟨rfl, rfl⟩ | ⟨b, ha, h1, h2, z, hz, hb⟩
  · left
    have hn : n = 0 := Nat.le_zero.1 hn
    subst hn
    exact ⟨rfl, rfl⟩
  · right
    refine ⟨b, ?_, ?_, ?_, (xs.drop n).flatMap k.cells ++ z, ?_, ?_⟩
    · unfold Sl.cut
      dsimp only
      split
      · exact ha
      · rw [ha, Nat.zero_mul]; rfl
    · show n - 0 ≤ _; rw [List.length_take]; omega
    · show _ ≤ s.cap - 0; rw [List.length_take]; omega
    · show _ = (s.cap - 0 - (xs.take n).length) * k.size
      rw [List.length_append, flat_len, hz, List.length_drop, List.length_take, Nat.min_eq_left (by omega), Nat.sub_zero, ← Nat.add_mul]
      congr 1; omega
    · rw [hb, ← List.append_assoc, ← List.flatMap_append, List.take_append_drop]
theorem New.chop {h0 h : Heap} {k : Kd} {s : Sl} {xs : List (Den k)} (o : New h0 h k s xs) {n : Nat} (hn : n ≤ s.len) {sz : Nat} : New h0 h k (s.cut 0 n sz) (xs.take n) ∧ ∀ b, blkOf (s.cut 0 n sz) b → blkOf s b := by
  obtain ⟨a, b, c⟩ := o.own.chop o.len hn (sz := sz)
  exact ⟨⟨a, by rw [b, List.length_take, o.len]; omega, o.le, fun x hx => o.new x (c x hx)⟩, c⟩

/-! ### maps of sleeping actors -/
theorem eq_ki (x y : Den ki) : eqK ki x y = true ↔ x = y := by
  show decide (x = y) = true ↔ _
  exact decide_eq_true_iff
theorem fi_mem {l : List (Int × Int)} {key : Int} {j : Nat} {v : Int} {i : Nat} (h : fi ki (key : Den ki) l i = some (j, v)) : (key, v) ∈ l ∧ ∃ n, j = i + n ∧ l[n]? = some (key, v) := by
  obtain ⟨n, p, h1, h2, h3, h4⟩ := fi_spec h
  have h3 : key = p.1 := (eq_ki _ _).1 h3
  have : p = (key, v) := Prod.ext h3.symm h4
  rw [this] at h2
  exact ⟨List.mem_of_getElem? h2, n, h1, h2⟩
theorem fi_no {l : List (Int × Int)} {key : Int} : ∀ {i : Nat}, fi ki (key : Den ki) l i = none → ∀ v, (key, v) ∉ l := by
  induction l with
  | nil => intro i _ v hv; cases hv
  | cons p l ih =>
    intro i h v hv
    simp only [fi] at h
    cases e : eqK ki key p.1
    · rw [e] at h
      rcases List.mem_cons.1 hv with q | q
      · have : key = p.1 := by rw [← q]
        rw [(eq_ki key p.1).2 this] at e; cases e
      · exact ih h v q
    · rw [e] at h; cases h
def Slp (l : List (Int × Int)) (P : Nat → Prop) : Prop := (l.map (·.1)).Nodup ∧ (∀ p ∈ l, ∃ o : Nat, p.1 = (o : Int) ∧ P o ∧ 0 < p.2) ∧ ∀ o, P o → ∃ v, ((o : Int), v) ∈ l
theorem Slp.nil : Slp [] (fun _ => False) := ⟨List.nodup_nil, fun p hp => (by cases hp), fun o ho => ho.elim⟩
theorem Slp.congr {l P Q} (s : Slp l P) (h : ∀ o, P o ↔ Q o) : Slp l Q := ⟨s.1, fun p hp => by
  obtain ⟨o, a, b, c⟩ := s.2.1 p hp
  exact ⟨o, a, (h o).1 b, c⟩, fun o ho => s.2.2 o ((h o).2 ho)⟩
theorem Slp.look {l P} (s : Slp l P) (o : Nat) : (0 : Int) < ((fi ki ((o : Int) : Den ki) l 0).map (·.2)).getD 0 ↔ P o := by
  cases e : fi ki ((o : Int) : Den ki) l 0 with
  | none =>
    refine ⟨fun h => absurd h (Int.lt_irrefl 0), fun h => ?_⟩
    obtain ⟨v, hv⟩ := s.2.2 o h
    exact absurd hv (fi_no e v)
  | some p =>
    obtain ⟨j, v⟩ := p
    obtain ⟨hm, _⟩ := fi_mem e
    obtain ⟨o', a, b, c⟩ := s.2.1 _ hm
    have : o = o' := by have a : (o : Int) = (o' : Int) := a; omega
    subst this
    exact ⟨fun _ => b, fun _ => c⟩
theorem Slp.put {l P} (s : Slp l P) {w : Nat} (hw : ¬ P w) : Slp (mapPutL ki l ((w : Int) : Den ki) (1 : Int)) (fun o => P o ∨ o = w) := by
  unfold mapPutL
  cases e : fi ki ((w : Int) : Den ki) l 0 with
  | some p =>
    obtain ⟨j, v⟩ := p
    obtain ⟨hm, _⟩ := fi_mem e
    obtain ⟨o', a, b, _⟩ := s.2.1 _ hm
    have : w = o' := by have a : (w : Int) = (o' : Int) := a; omega
    subst this
    exact absurd b hw
  | none =>
    refine ⟨?_, fun p hp => ?_, fun o ho => ?_⟩
    · rw [List.map_append, List.nodup_append]
      refine ⟨s.1, by simp, fun x hx y hy q => ?_⟩
      have hy : y = (w : Int) := by simpa using hy
      obtain ⟨p, hp, rfl⟩ := List.mem_map.1 hx
      refine fi_no e p.2 ?_
      rw [← hy, ← q]; exact hp
    · rcases List.mem_append.1 hp with hp | hp
      · obtain ⟨o, a, b, c⟩ := s.2.1 p hp
        exact ⟨o, a, .inl b, c⟩
      · have : p = ((w : Int), (1 : Int)) := by simpa using hp
        rw [this]
        exact ⟨w, rfl, .inr rfl, Int.zero_lt_one⟩
    · rcases ho with ho | rfl
      · obtain ⟨v, hv⟩ := s.2.2 o ho
        exact ⟨v, List.mem_append_left _ hv⟩
      · exact ⟨1, by simp⟩
theorem Slp.del {l P} (s : Slp l P) (k : Nat) : Slp (mapDelL ki l ((k : Int) : Den ki)) (fun o => P o ∧ o ≠ k) := by
  unfold mapDelL
  cases e : fi ki ((k : Int) : Den ki) l 0 with
  | none =>
    refine s.congr fun o => ⟨fun h => ⟨h, fun q => ?_⟩, fun h => h.1⟩
    subst q
    obtain ⟨v, hv⟩ := s.2.2 o h
    exact fi_no e v hv
  | some p =>
    obtain ⟨j, v⟩ := p
    obtain ⟨hm, n, hj, hn⟩ := fi_mem e
    rw [Nat.zero_add] at hj
    subst hj
    have hlt := (List.getElem?_eq_some_iff.1 hn).1
    have hget := (List.getElem?_eq_some_iff.1 hn).2
    have hsp : l = l.take j ++ ((k : Int), v) :: l.drop (j + 1) := by rw [← hget, ← List.drop_eq_getElem_cons, List.take_append_drop]
    show Slp (l.eraseIdx j) _
    rw [List.eraseIdx_eq_take_drop_succ]
    have nd := s.1
    rw [hsp, List.map_append, List.map_cons] at nd
    have nd2 : (((l.take j).map (·.1)) ++ (k : Int) :: (l.drop (j + 1)).map (·.1)).Nodup := nd
    obtain ⟨n1, n2, n3⟩ := nodup_mid nd2
    have sub : ∀ p, p ∈ l.take j ++ l.drop (j + 1) ↔ p ∈ l ∧ p.1 ≠ (k : Int) := fun p => by
      constructor
      · intro hp
        rcases List.mem_append.1 hp with hp | hp
        · exact ⟨List.mem_of_mem_take hp, fun q => n2 (by rw [← q]; exact List.mem_map_of_mem hp)⟩
        · exact ⟨List.mem_of_mem_drop hp, fun q => n3 (by rw [← q]; exact List.mem_map_of_mem hp)⟩
      · rintro ⟨hp, hne⟩
        rw [hsp] at hp
        rcases List.mem_append.1 hp with hp | hp
        · exact List.mem_append_left _ hp
        · rcases List.mem_cons.1 hp with q | hp
          · exact absurd (by rw [q]) hne
          · exact List.mem_append_right _ hp
    refine ⟨by rw [List.map_append]; exact n1, fun p hp => ?_, fun o ho => ?_⟩
    · obtain ⟨hp, hne⟩ := (sub p).1 hp
      obtain ⟨o, a, b, c⟩ := s.2.1 p hp
      exact ⟨o, a, ⟨b, fun q => hne (by rw [a, q])⟩, c⟩
    · obtain ⟨v', hv'⟩ := s.2.2 o ho.1
      exact ⟨v', (sub _).2 ⟨hv', fun q => ho.2 (by have q : (o : Int) = (k : Int) := q; omega)⟩⟩
theorem entOk_ex {kk kv : Kd} {es : List MapEntry} {l : List (Den kk × Den kv)} (h : entOk kk kv es l) {e : MapEntry} (he : e ∈ es) : ∃ p ∈ l, e.key = kk.val p.1 ∧ e.val = kv.val p.2 := by
  have h : es.map (fun e => (e.key, e.val)) = l.map fun p => (kk.val p.1, kv.val p.2) := h
  have : (e.key, e.val) ∈ l.map fun p => (kk.val p.1, kv.val p.2) := by rw [← h]; exact List.mem_map_of_mem (f := fun e : MapEntry => (e.key, e.val)) he
  obtain ⟨p, hp, q⟩ := List.mem_map.1 this
  exact ⟨p, hp, (congrArg Prod.fst q).symm, (congrArg Prod.snd q).symm⟩
theorem entOk_of {kk kv : Kd} {es : List MapEntry} {l : List (Den kk × Den kv)} (h : entOk kk kv es l) {p : Den kk × Den kv} (hp : p ∈ l) : ∃ e ∈ es, e.key = kk.val p.1 ∧ e.val = kv.val p.2 := by
  have h : es.map (fun e => (e.key, e.val)) = l.map fun p => (kk.val p.1, kv.val p.2) := h
  have : (kk.val p.1, kv.val p.2) ∈ es.map (fun e => (e.key, e.val)) := by rw [h]; exact List.mem_map_of_mem (f := fun p : Den kk × Den kv => (kk.val p.1, kv.val p.2)) hp
  obtain ⟨e, he, q⟩ := List.mem_map.1 this
  exact ⟨e, he, congrArg Prod.fst q, congrArg Prod.snd q⟩
theorem MapIs.ext {h h' : Heap} {b : Nat} {kk kv : Kd} {l : List (Den kk × Den kv)} (m : MapIs h b kk kv l) {S : Nat → Prop} (e : Ext S h h') (n : ¬ S b) : MapIs h' b kk kv l := by
  obtain ⟨es, c, h1, h2⟩ := m
  exact ⟨es, c, e.1 b _ h1 n, h2⟩
theorem MapIs.live {h : Heap} {b : Nat} {kk kv : Kd} {l : List (Den kk × Den kv)} (m : MapIs h b kk kv l) : h b ≠ none := by
  obtain ⟨es, c, h1, _⟩ := m
  rw [h1]; exact fun q => by cases q
theorem ext_one {h h' : Heap} {b : Nat} (hb : h b ≠ none) (e : ∀ c, c ≠ b → h' c = h c) (hb' : h' b ≠ none) : Ext (fun x => x = b) h h' := ⟨fun c o ho hc => by rw [e c hc]; exact ho, fun c hc => by
  by_cases q : c = b
  · subst q; exact absurd hc hb'
  · rw [← e c q]; exact hc⟩

/-! ### which scripts come -/
section
variable {sz len : Int} {xss : List (List Ac)}
def lensAt (xss : List (List Ac)) (w : Nat) : Nat := ((xss.map List.length)[w]?).getD 0
def nextE (u : List Int) (o : Nat) : Ev := ((o : Int), cnt u o)
def nbL (sz len : Int) (xss : List (List Ac)) (n : Nat) (u : List Int) : List (List Int) := (allW (xss.map List.length) n u).filter (isLst sz len xss)
def nbC (sz len : Int) (xss : List (List Ac)) (n : Nat) (u : List Int) (w : Nat) : List (List Int) := (allC (xss.map List.length) n u w).filter (isLst sz len xss)
/-- The actor may sleep. -/
def Asl (sz len : Int) (xss : List (List Ac)) (u : List Int) (o : Nat) : Prop := cnt u o < lensAt xss o ∧ Zz (bdE sz len xss) whoE (evL u) (nextE u o)
theorem nbL_succ (n : Nat) (u : List Int) : nbL sz len xss (n + 1) u = (List.range xss.length).flatMap (nbC sz len xss n u) := by
  unfold nbL
  rw [allW_succ, List.filter_flatMap, List.length_map]; rfl
theorem snoc_nb {u : List Int} {w : Nat} : NbS (bdE sz len xss) whoE (evL (u ++ [(w : Int)])) ↔ NbS (bdE sz len xss) whoE (evL u) ∧ ¬ Zz (bdE sz len xss) whoE (evL u) (nextE u w) := by
  rw [evL_snoc, Int.toNat_natCast]
  exact nbS_snoc (bdE sz len xss) whoE
theorem cnt_snoc (u : List Int) (w o : Nat) : cnt (u ++ [(w : Int)]) o = cnt u o + if o = w then 1 else 0 := by
  rw [cnt_app, cnt_one]
  congr 1
  by_cases h : o = w
  · subst h; rw [if_pos rfl, if_pos rfl]
  · rw [if_neg h, if_neg (by omega)]
theorem snoc_asl {u : List Int} {w o : Nat} : Asl sz len xss (u ++ [(w : Int)]) o ↔ o ≠ w ∧ cnt u o < lensAt xss o ∧ bdE sz len xss (nextE u w) (nextE u o) = false ∧ (o < w ∨ Zz (bdE sz len xss) whoE (evL u) (nextE u o)) := by
  unfold Asl
  rw [cnt_snoc, evL_snoc, Int.toNat_natCast, zz_snoc]
  have hne : nextE (u ++ [(w : Int)]) o = if o = w then ((o : Int), cnt u o + 1) else nextE u o := by
    unfold nextE
    rw [cnt_snoc]
    split <;> rfl
  rw [hne]
  have hwho : whoE (nextE u o) = o := Int.toNat_natCast o
  by_cases z : o = w
  · subst z
    rw [if_pos rfl, if_pos rfl]
    constructor
    · rintro ⟨_, h, _⟩
      have : bdE sz len xss ((o : Int), cnt u o) ((o : Int), cnt u o + 1) = true := bdE_fst rfl
      rw [this] at h; cases h
    · rintro ⟨h, _⟩; exact absurd rfl h
  · rw [if_neg z, if_neg z, Nat.add_zero]
    have hw2 : whoE ((w : Int), cnt u w) = w := Int.toNat_natCast w
    rw [hwho, hw2]
    constructor
    · rintro ⟨a, b, c⟩; exact ⟨z, a, b, c⟩
    · rintro ⟨_, a, b, c⟩; exact ⟨a, b, c⟩
theorem nbC_asleep {n : Nat} {u : List Int} {w : Nat} (hin : InR xss.length u) (hle : ∀ w, cnt u w ≤ lensAt xss w) (hw : w < xss.length) (h : Asl sz len xss u w) : nbC sz len xss n u w = [] := by
  unfold nbC allC
  have hlt : cnt u w < ((xss.map List.length)[w]?).getD 0 := h.1
  rw [if_pos hlt, List.filter_eq_nil_iff]
  intro q hq hl
  have hu2 : ∀ x, cnt (u ++ [(w : Int)]) x ≤ ((xss.map List.length)[x]?).getD 0 := fun x => by
    rw [cnt_snoc]
    have := hle x
    unfold lensAt at this
    by_cases y : x = w
    · subst y; rw [if_pos rfl]; omega
    · rw [if_neg y]; omega
  obtain ⟨v, h1, h2, h3, h4⟩ := (allW_mem _ n _ q hu2).1 hq
  rw [List.length_map] at h3
  have hinq : InR xss.length q := fun p hp => by
    rw [h1] at hp
    rcases List.mem_append.1 hp with hp | hp
    · rcases List.mem_append.1 hp with hp | hp
      · exact hin p hp
      · have : p = (w : Int) := by simpa using hp
        rw [this]; omega
    · exact h3 p hp
  have hnb := (isLst_nb hinq).1 hl
  have hpre : (evL q).take (u.length + 1) = evL (u ++ [(w : Int)]) := by
    rw [evL_take, h1]
    congr 1
    rw [List.take_append_of_le_length (by simp)]
    exact List.take_of_length_le (by simp)
  have hsp : evL q = evL (u ++ [(w : Int)]) ++ (evL q).drop (u.length + 1) := by rw [← hpre, List.take_append_drop]
  rw [hsp] at hnb
  exact (snoc_nb.1 (NbS.pre (bdE sz len xss) whoE hnb)).2 h.2
theorem nbC_done {n : Nat} {u : List Int} {w : Nat} (h : ¬ cnt u w < lensAt xss w) : nbC sz len xss n u w = [] := by
  have h : ¬ cnt u w < ((xss.map List.length)[w]?).getD 0 := h
  unfold nbC allC
  rw [if_neg h]; rfl
theorem nbC_go {n : Nat} {u : List Int} {w : Nat} (h : cnt u w < lensAt xss w) : nbC sz len xss n u w = nbL sz len xss n (u ++ [(w : Int)]) := by
  have h : cnt u w < ((xss.map List.length)[w]?).getD 0 := h
  unfold nbC allC nbL
  rw [if_pos h]
theorem nbL_zero {u : List Int} (hin : InR xss.length u) (h : NbS (bdE sz len xss) whoE (evL u)) : nbL sz len xss 0 u = [u] := by
  unfold nbL
  show [u].filter _ = _
  rw [List.filter_cons_of_pos ((isLst_nb hin).2 h)]; rfl
/-- All is done just if the script is as long as that. -/
theorem all_done {u : List Int} (hin : InR xss.length u) (hle : ∀ w, cnt u w ≤ lensAt xss w) : u.length = (xss.map List.length).sum ↔ ∀ w < xss.length, cnt u w = lensAt xss w := by
  constructor
  · intro h w hw
    have : u ∈ allW (xss.map List.length) (xss.map List.length).sum [] := (allW_mem _ _ [] u (fun w => Nat.zero_le _)).2 ⟨u, rfl, h, by rw [List.length_map]; exact hin, hle⟩
    have hS := allW_script.1 this
    have hx : (xss.map List.length)[w]? = some xss[w].length := by simp [hw]
    rw [hS.2 w _ hx]
    unfold lensAt
    rw [hx]; rfl
  · intro h
    have hS : ScriptP (xss.map List.length) u := ⟨by rw [List.length_map]; exact hin, fun i l hl => by
      have hi : i < xss.length := by have := (List.getElem?_eq_some_iff.1 hl).1; simpa using this
      rw [h i hi]; unfold lensAt; rw [hl]; rfl⟩
    exact hS.len
end
end Go.Mx
