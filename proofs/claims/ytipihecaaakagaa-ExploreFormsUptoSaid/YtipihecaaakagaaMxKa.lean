/-
  Traces: words that can be made of one another by changing about neighbours that are not bound.
  Traces: the least word of a trace; the normal form.
-/
import Derived.Test.YtipihecaaakagaaMxFe
set_option linter.unusedVariables false
set_option linter.unusedSimpArgs false
set_option linter.unusedSectionVars false
namespace Go.Mx

theorem rev_ind {α : Type} {P : List α → Prop} (nil : P []) (append_singleton : ∀ l x, P l → P (l ++ [x])) : ∀ l, P l := by
  have : ∀ n (l : List α), l.length = n → P l := by
    intro n
    induction n with
    | zero => intro l h; rw [List.length_eq_zero_iff.1 h]; exact nil
    | succ n ih =>
      intro l h
      rcases List.eq_nil_or_concat l with rfl | ⟨v, t, rfl⟩
      · cases h
      · rw [List.concat_eq_append] at h ⊢
        rw [List.length_append, List.length_singleton] at h
        exact append_singleton v t (ih v (by omega))
  exact fun l => this _ l rfl
section
variable {α : Type} (bd : α → α → Bool)

/-- m can be made of es: each time the next comes to the front past all that stand ahead of it. -/
def Alk : List α → List α → Prop
  | es, [] => es = []
  | es, e :: m => ∃ l1 l2, es = l1 ++ e :: l2 ∧ (∀ f ∈ l1, bd f e = false) ∧ Alk (l1 ++ l2) m

theorem Alk.refl : ∀ l : List α, Alk bd l l
  | [] => rfl
  | e :: l => ⟨[], l, rfl, fun f hf => (by cases hf), Alk.refl l⟩
theorem Alk.perm : ∀ {m es : List α}, Alk bd es m → es.Perm m
  | [], es, h => by
    have h : es = [] := h
    rw [h]
  | e :: m, es, ⟨l1, l2, h1, h2, h3⟩ => by
    rw [h1]
    exact List.perm_middle.trans (List.Perm.cons e (Alk.perm h3))

theorem pair_mem {l : List α} {a b : α} (h : [a, b].Sublist l) : a ∈ l ∧ b ∈ l := ⟨h.subset (by simp), h.subset (by simp)⟩
theorem pair_app {l1 l2 : List α} {a b : α} : [a, b].Sublist (l1 ++ l2) ↔ [a, b].Sublist l1 ∨ (a ∈ l1 ∧ b ∈ l2) ∨ [a, b].Sublist l2 := by
  rw [List.sublist_append_iff]
  constructor
  · rintro ⟨x, y, h1, h2, h3⟩
    match x, h1 with
    | [], h1 => rw [List.nil_append] at h1; subst h1; exact .inr (.inr h3)
    | [p], h1 =>
      rw [List.singleton_append] at h1
      cases h1
      exact .inr (.inl ⟨h2.subset (by simp), h3.subset (by simp)⟩)
    | [p, q], h1 =>
      cases h1
      exact .inl h2
    | p :: q :: r :: s, h1 => cases h1
  · rintro (h | ⟨h1, h2⟩ | h)
    · exact ⟨[a, b], [], rfl, h, List.nil_sublist _⟩
    · exact ⟨[a], [b], rfl, List.singleton_sublist.2 h1, List.singleton_sublist.2 h2⟩
    · exact ⟨[], [a, b], rfl, List.nil_sublist _, h⟩
theorem pair_cons {l : List α} {a b e : α} : [a, b].Sublist (e :: l) ↔ (a = e ∧ b ∈ l) ∨ [a, b].Sublist l := by
  rw [List.sublist_cons_iff]
  constructor
  · rintro (h | ⟨r, h1, h2⟩)
    · exact .inr h
    · cases h1
      exact .inl ⟨rfl, List.singleton_sublist.1 h2⟩
  · rintro (⟨rfl, h⟩ | h)
    · exact .inr ⟨[b], rfl, List.singleton_sublist.2 h⟩
    · exact .inl h
theorem pair_ne {l : List α} (nd : l.Nodup) {a b : α} (h : [a, b].Sublist l) : a ≠ b := by
  have := nd.sublist h
  rw [List.nodup_cons] at this
  exact fun e => this.1 (by rw [e]; simp)
theorem pair_asym : ∀ {l : List α}, l.Nodup → ∀ {a b : α}, [a, b].Sublist l → ¬ [b, a].Sublist l
  | [], _, a, b, h, _ => by cases h
  | e :: l, nd, a, b, h, h' => by
    rw [List.nodup_cons] at nd
    rcases pair_cons.1 h with ⟨rfl, h1⟩ | h1
    · rcases pair_cons.1 h' with ⟨rfl, h2⟩ | h2
      · exact nd.1 h1
      · exact nd.1 (pair_mem h2).2
    · rcases pair_cons.1 h' with ⟨rfl, h2⟩ | h2
      · exact nd.1 (pair_mem h1).2
      · exact pair_asym nd.2 h1 h2
theorem pair_tot : ∀ {l : List α} {a b : α}, a ∈ l → b ∈ l → a ≠ b → [a, b].Sublist l ∨ [b, a].Sublist l
  | [], a, b, h, _, _ => by cases h
  | e :: l, a, b, ha, hb, hne => by
    rw [pair_cons, pair_cons]
    rcases List.mem_cons.1 ha with rfl | ha2
    · exact .inl (.inl ⟨rfl, (List.mem_cons.1 hb).resolve_left fun q => hne q.symm⟩)
    · rcases List.mem_cons.1 hb with rfl | hb2
      · exact .inr (.inl ⟨rfl, ha2⟩)
      · exact (pair_tot ha2 hb2 hne).imp .inr .inr
theorem pair_mid {l1 l2 : List α} {a b e : α} (h : [a, b].Sublist (l1 ++ l2)) : [a, b].Sublist (l1 ++ e :: l2) := by
  rw [pair_app] at h ⊢
  rcases h with h | ⟨h1, h2⟩ | h
  · exact .inl h
  · exact .inr (.inl ⟨h1, List.mem_cons_of_mem _ h2⟩)
  · exact .inr (.inr (pair_cons.2 (.inr h)))
theorem pair_out {l1 l2 : List α} {a b e : α} (h : [a, b].Sublist (l1 ++ e :: l2)) (ha : a ≠ e) (hb : b ≠ e) : [a, b].Sublist (l1 ++ l2) := by
  rw [pair_app] at h ⊢
  rcases h with h | ⟨h1, h2⟩ | h
  · exact .inl h
  · exact .inr (.inl ⟨h1, (List.mem_cons.1 h2).resolve_left hb⟩)
  · exact .inr (.inr ((pair_cons.1 h).resolve_left fun q => ha q.1))
theorem nodup_mid {l1 l2 : List α} {e : α} (nd : (l1 ++ e :: l2).Nodup) : (l1 ++ l2).Nodup ∧ e ∉ l1 ∧ e ∉ l2 := by
  have h := (List.perm_middle.nodup_iff).1 nd
  rw [List.nodup_cons] at h
  exact ⟨h.2, fun q => h.1 (List.mem_append_left _ q), fun q => h.1 (List.mem_append_right _ q)⟩

/-- Bound ones stand in the same order. -/
def SameO (es m : List α) : Prop := ∀ a b, bd a b = true → [a, b].Sublist es → [a, b].Sublist m
theorem alk_iff : ∀ {m es : List α}, es.Nodup → (Alk bd es m ↔ es.Perm m ∧ SameO bd es m)
  | [], es, nd => by
    constructor
    · intro h
      have h : es = [] := h
      subst h
      exact ⟨.refl _, fun a b _ q => q⟩
    · intro ⟨h, _⟩
      exact h.eq_nil
  | e :: m, es, nd => by
    constructor
    · intro h
      have hp := Alk.perm bd h
      obtain ⟨l1, l2, rfl, h2, h3⟩ := h
      obtain ⟨n1, n2, n3⟩ := nodup_mid nd
      obtain ⟨g1, g2⟩ := (alk_iff n1).1 h3
      refine ⟨hp, fun a b hab hs => ?_⟩
      have hne := pair_ne nd hs
      by_cases ha : a = e
      · subst ha
        have hb : b ∈ a :: m := hp.subset (pair_mem hs).2
        exact pair_cons.2 (.inl ⟨rfl, (List.mem_cons.1 hb).resolve_left fun q => hne q.symm⟩)
      · by_cases hb : b = e
        · subst hb
          exfalso
          rw [pair_app] at hs
          rcases hs with h | ⟨h1, _⟩ | h
          · exact n2 (pair_mem h).2
          · have := h2 a h1; rw [hab] at this; cases this
          · rcases pair_cons.1 h with ⟨rfl, h⟩ | h
            · exact ha rfl
            · exact n3 (pair_mem h).2
        · exact pair_cons.2 (.inr (g2 a b hab (pair_out hs ha hb)))
    · intro ⟨hp, hs⟩
      have he : e ∈ es := hp.symm.subset (by simp)
      obtain ⟨l1, l2, rfl⟩ := List.append_of_mem he
      obtain ⟨n1, n2, n3⟩ := nodup_mid nd
      have nm : (e :: m).Nodup := hp.nodup_iff.1 nd
      have hp2 : (l1 ++ l2).Perm m := (List.perm_middle.symm.trans hp).cons_inv
      refine ⟨l1, l2, rfl, fun f hf => ?_, (alk_iff n1).2 ⟨hp2, fun a b hab h => ?_⟩⟩
      · cases hb : bd f e with
        | false => rfl
        | true =>
          exfalso
          have := hs f e hb (pair_app.2 (.inr (.inl ⟨hf, by simp⟩)))
          rcases pair_cons.1 this with ⟨rfl, _⟩ | h
          · exact n2 hf
          · exact (List.nodup_cons.1 nm).1 (pair_mem h).2
      · rcases pair_cons.1 (hs a b hab (pair_mid h)) with ⟨rfl, _⟩ | h'
        · exfalso
          have := (pair_mem h).1
          rcases List.mem_append.1 this with q | q
          · exact n2 q
          · exact n3 q
        · exact h'
theorem Alk.symm (sy : ∀ a b, bd a b = bd b a) {es m : List α} (nd : es.Nodup) (h : Alk bd es m) : Alk bd m es := by
  obtain ⟨h1, h2⟩ := (alk_iff bd nd).1 h
  have nm := h1.nodup_iff.1 nd
  refine (alk_iff bd nm).2 ⟨h1.symm, fun a b hab hs => ?_⟩
  obtain ⟨ma, mb⟩ := pair_mem hs
  rcases pair_tot (h1.symm.subset ma) (h1.symm.subset mb) (pair_ne nm hs) with q | q
  · exact q
  · exact absurd (h2 b a (by rw [sy]; exact hab) q) (pair_asym nm hs)
theorem Alk.trans {a b c : List α} (nd : a.Nodup) (h1 : Alk bd a b) (h2 : Alk bd b c) : Alk bd a c := by
  obtain ⟨p1, s1⟩ := (alk_iff bd nd).1 h1
  obtain ⟨p2, s2⟩ := (alk_iff bd (p1.nodup_iff.1 nd)).1 h2
  exact (alk_iff bd nd).2 ⟨p1.trans p2, fun x y h q => s2 x y h (s1 x y h q)⟩
/-- The other way round: each time the last. -/
theorem alk_snoc (sy : ∀ a b, bd a b = bd b a) {es m : List α} {e : α} (nd : es.Nodup) : Alk bd es (m ++ [e]) ↔ ∃ l1 l2, es = l1 ++ e :: l2 ∧ (∀ f ∈ l2, bd e f = false) ∧ Alk bd (l1 ++ l2) m := by
  rw [alk_iff bd nd]
  constructor
  · intro ⟨hp, hs⟩
    have he : e ∈ es := hp.symm.subset (by simp)
    obtain ⟨l1, l2, rfl⟩ := List.append_of_mem he
    obtain ⟨n1, n2, n3⟩ := nodup_mid nd
    have nm := hp.nodup_iff.1 nd
    have hp2 : (l1 ++ l2).Perm m := (List.perm_middle.symm.trans (hp.trans (List.perm_append_singleton e m))).cons_inv
    have nem : e ∉ m := by
      have := (nodup_mid (l2 := []) nm).2.1
      exact this
    refine ⟨l1, l2, rfl, fun f hf => ?_, (alk_iff bd n1).2 ⟨hp2, fun a b hab h => ?_⟩⟩
    · cases hb : bd e f with
      | false => rfl
      | true =>
        exfalso
        have := hs e f hb (pair_app.2 (.inr (.inr (pair_cons.2 (.inl ⟨rfl, hf⟩)))))
        rw [pair_app] at this
        rcases this with h | ⟨h, _⟩ | h
        · exact nem (pair_mem h).1
        · exact nem h
        · have := (pair_cons.1 h).resolve_right (fun q => by cases q)
          cases this.2
    · have hne : a ≠ e ∧ b ≠ e := by
        obtain ⟨q1, q2⟩ := pair_mem h
        exact ⟨fun q => (List.mem_append.1 (q ▸ q1)).elim n2 n3, fun q => (List.mem_append.1 (q ▸ q2)).elim n2 n3⟩
      have := hs a b hab (pair_mid h)
      have := pair_out (l2 := []) this hne.1 hne.2
      rwa [List.append_nil] at this
  · rintro ⟨l1, l2, rfl, h2, h3⟩
    obtain ⟨n1, n2, n3⟩ := nodup_mid nd
    obtain ⟨g1, g2⟩ := (alk_iff bd n1).1 h3
    have hp : (l1 ++ e :: l2).Perm (m ++ [e]) := (List.perm_middle.trans (g1.cons e)).trans (List.perm_append_singleton e m).symm
    refine ⟨hp, fun a b hab hs => ?_⟩
    have hne := pair_ne nd hs
    rw [pair_app]
    by_cases hb : b = e
    · subst hb
      refine .inr (.inl ⟨?_, by simp⟩)
      have := hp.subset (pair_mem hs).1
      rcases List.mem_append.1 this with q | q
      · exact q
      · exact absurd (by simpa using q) hne
    · by_cases ha : a = e
      · subst ha
        exfalso
        rw [pair_app] at hs
        rcases hs with h | ⟨h1, _⟩ | h
        · exact n2 (pair_mem h).1
        · exact n2 h1
        · rcases pair_cons.1 h with ⟨_, h⟩ | h
          · have := h2 b h; rw [hab] at this; cases this
          · exact n3 (pair_mem h).1
      · exact .inl (g2 a b hab (pair_out hs ha hb))

/-- What a step does not hang on the order of two that are not bound, words that are alike do. -/
theorem Alk.fold {σ : Type} {f : σ → α → σ} (cm : ∀ s a b, bd a b = false → f (f s a) b = f (f s b) a) : ∀ {m es : List α}, Alk bd es m → ∀ s, es.foldl f s = m.foldl f s
  | [], es, h, s => by
    have h : es = [] := h
    rw [h]
  | e :: m, es, ⟨l1, l2, h1, h2, h3⟩, s => by
    rw [h1]
    have key : ∀ (l1 : List α), (∀ f ∈ l1, bd f e = false) → ∀ s, f (l1.foldl f s) e = l1.foldl f (f s e) := by
      intro l1
      induction l1 with
      | nil => intro _ s; rfl
      | cons x l ih =>
        intro hx s
        show f (l.foldl f (f s x)) e = l.foldl f (f (f s e) x)
        rw [ih (fun y hy => hx y (List.mem_cons_of_mem _ hy)), cm s x e (hx x (by simp))]
    rw [List.foldl_append, List.foldl_cons, List.foldl_cons, key l1 h2, ← List.foldl_append]
    exact Alk.fold cm h3 _
end
end Go.Mx

namespace Go.Mx

section
variable {α : Type} (bd : α → α → Bool) (who : α → Nat)

/-! ### the least word -/
/-- x could stand further ahead, past one whose actor is greater. -/
def Zz (u : List α) (x : α) : Prop := ∃ u1 y u2, u = u1 ++ y :: u2 ∧ who x < who y ∧ ∀ f ∈ y :: u2, bd f x = false
/-- Nothing can come ahead of what stands first, and is less; and so behind it. -/
def NbS : List α → Prop
  | [] => True
  | y :: r => (∀ q2 x q3, r = q2 ++ x :: q3 → who x < who y → (∀ f ∈ y :: q2, bd f x = false) → False) ∧ NbS r
theorem zz_snoc {u : List α} {y x : α} : Zz bd who (u ++ [y]) x ↔ bd y x = false ∧ (who x < who y ∨ Zz bd who u x) := by
  constructor
  · rintro ⟨u1, z, u2, h1, h2, h3⟩
    rcases List.eq_nil_or_concat u2 with rfl | ⟨v, t, rfl⟩
    · have := List.append_inj' h1 rfl
      obtain ⟨_, h⟩ := this
      cases h
      exact ⟨h3 _ (by simp), .inl h2⟩
    · have e : u ++ [y] = (u1 ++ z :: v) ++ [t] := by rw [h1, List.concat_eq_append]; simp
      obtain ⟨e1, e2⟩ := List.append_inj' e rfl
      cases e2
      refine ⟨h3 _ (by simp), .inr ⟨u1, z, v, e1, h2, fun f hf => h3 f ?_⟩⟩
      rcases List.mem_cons.1 hf with rfl | hf
      · simp
      · simp [hf]
  · rintro ⟨h1, h2 | ⟨u1, z, u2, rfl, h3, h4⟩⟩
    · exact ⟨u, y, [], rfl, h2, fun f hf => by
        have : f = y := by simpa using hf
        rw [this]; exact h1⟩
    · refine ⟨u1, z, u2 ++ [y], by simp, h3, fun f hf => ?_⟩
      rcases List.mem_cons.1 hf with rfl | hf
      · exact h4 _ (by simp)
      · rcases List.mem_append.1 hf with hf | hf
        · exact h4 f (List.mem_cons_of_mem _ hf)
        · have : f = y := by simpa using hf
          rw [this]; exact h1
theorem nbS_snoc : ∀ {u : List α} {x : α}, NbS bd who (u ++ [x]) ↔ NbS bd who u ∧ ¬ Zz bd who u x
  | [], x => by
    constructor
    · exact fun _ => ⟨trivial, fun ⟨u1, y, u2, h, _⟩ => by cases u1 <;> cases h⟩
    · intro _
      refine ⟨fun q2 x q3 h => ?_, trivial⟩
      cases q2 <;> cases h
  | y :: u, x => by
    show ((∀ q2 x' q3, u ++ [x] = q2 ++ x' :: q3 → who x' < who y → (∀ f ∈ y :: q2, bd f x' = false) → False) ∧ NbS bd who (u ++ [x])) ↔ _
    rw [nbS_snoc]
    constructor
    · rintro ⟨h1, h2, h3⟩
      refine ⟨⟨fun q2 x' q3 e => h1 q2 x' (q3 ++ [x]) (by rw [e]; simp), h2⟩, ?_⟩
      rintro ⟨u1, z, u2, e, g1, g2⟩
      cases u1 with
      | nil =>
        cases e
        exact h1 u x [] rfl g1 g2
      | cons a u1 =>
        cases e
        exact h3 ⟨u1, z, u2, rfl, g1, g2⟩
    · rintro ⟨⟨h1, h2⟩, h3⟩
      refine ⟨fun q2 x' q3 e g1 g2 => ?_, h2, fun ⟨u1, z, u2, e, g1, g2⟩ => h3 ⟨y :: u1, z, u2, by rw [e]; rfl, g1, g2⟩⟩
      rcases List.eq_nil_or_concat q3 with rfl | ⟨v, t, rfl⟩
      · obtain ⟨e1, e2⟩ := List.append_inj' e rfl
        cases e2
        subst e1
        exact h3 ⟨[], y, u, rfl, g1, g2⟩
      · have e' : u ++ [x] = (q2 ++ x' :: v) ++ [t] := by rw [e, List.concat_eq_append]; simp
        obtain ⟨e1, e2⟩ := List.append_inj' e' rfl
        exact h1 q2 x' v e1 g1 g2
theorem NbS.pre {u v : List α} (h : NbS bd who (u ++ v)) : NbS bd who u := by
  induction v using rev_ind with
  | nil => rwa [List.append_nil] at h
  | append_singleton v x ih => rw [← List.append_assoc, nbS_snoc] at h; exact ih h.1

variable (hw : ∀ a b, who a = who b → bd a b = true)
include hw
/-- Of all alike words just one is the least. -/
theorem nbS_one (sy : ∀ a b, bd a b = bd b a) : ∀ {m m' : List α}, m.Nodup → Alk bd m m' → NbS bd who m → NbS bd who m' → m = m'
  | m, [], _, h, _, _ => h
  | m, x :: r', nd, ⟨l1, l2, h1, h2, h3⟩, hn, hn' => by
    subst h1
    cases l1 with
    | nil => rw [nbS_one sy (List.nodup_cons.1 nd).2 h3 hn.2 hn'.2]; rfl
    | cons y l1 =>
      exfalso
      have hne : who x ≠ who y := fun e => by
        have := h2 y (by simp)
        rw [hw y x e.symm] at this; cases this
      rcases Nat.lt_or_gt_of_ne hne with q | q
      · exact hn.1 l1 x l2 rfl q h2
      · -- y can come ahead in m'
        have hs : Alk bd (x :: r') (y :: l1 ++ x :: l2) := Alk.symm bd sy nd ⟨y :: l1, l2, rfl, h2, h3⟩
        obtain ⟨k1, k2, e, g1, g2⟩ := hs
        cases k1 with
        | nil => cases e; exact hne rfl
        | cons a k1 =>
          cases e
          exact hn'.1 k1 y k2 rfl q g1

/-! ### the normal form -/
omit hw
def stF (acc : List (α × Nat)) (e : α) : Nat := acc.foldl (fun n c => if bd c.1 e = true then max n (c.2 + 1) else n) 0
def stL : List α → List (α × Nat) → List (α × Nat)
  | [], acc => acc
  | e :: l, acc => stL l (acc ++ [(e, stF bd acc e)])
theorem stL_snoc : ∀ (l : List α) (acc : List (α × Nat)) (e : α), stL bd (l ++ [e]) acc = stL bd l acc ++ [(e, stF bd (stL bd l acc) e)]
  | [], acc, e => rfl
  | x :: l, acc, e => stL_snoc l _ e
theorem stL_fst : ∀ (l : List α) (acc : List (α × Nat)), (stL bd l acc).map (·.1) = acc.map (·.1) ++ l
  | [], acc => by simp [stL]
  | e :: l, acc => by
    show (stL bd l _).map _ = _
    rw [stL_fst l]; simp
theorem stF_snoc (acc : List (α × Nat)) (c : α × Nat) (e : α) : stF bd (acc ++ [c]) e = if bd c.1 e = true then max (stF bd acc e) (c.2 + 1) else stF bd acc e := by
  unfold stF; rw [List.foldl_append]; rfl
theorem stF_spec (e : α) : ∀ (acc : List (α × Nat)), (∀ c ∈ acc, bd c.1 e = true → c.2 < stF bd acc e) ∧ (stF bd acc e = 0 ∨ ∃ c ∈ acc, bd c.1 e = true ∧ c.2 + 1 = stF bd acc e) := by
  intro acc
  induction acc using rev_ind with
  | nil => exact ⟨fun c hc => (by cases hc), .inl rfl⟩
  | append_singleton acc d ih =>
    obtain ⟨h1, h2⟩ := ih
    rw [stF_snoc]
    by_cases z : bd d.1 e = true
    · rw [if_pos z]
      refine ⟨fun c hc hb => ?_, .inr ?_⟩
      · rcases List.mem_append.1 hc with hc | hc
        · have := h1 c hc hb; omega
        · have : c = d := by simpa using hc
          rw [this]; omega
      · by_cases y : stF bd acc e ≤ d.2 + 1
        · exact ⟨d, by simp, z, by omega⟩
        · rcases h2 with h2 | ⟨c, g1, g2, g3⟩
          · omega
          · exact ⟨c, List.mem_append_left _ g1, g2, by omega⟩
    · rw [if_neg z]
      refine ⟨fun c hc hb => ?_, h2.imp id fun ⟨c, g1, g2⟩ => ⟨c, List.mem_append_left _ g1, g2⟩⟩
      rcases List.mem_append.1 hc with hc | hc
      · exact h1 c hc hb
      · have : c = d := by simpa using hc
        rw [this] at hb; exact absurd hb z
/-- The steps of a word. -/
abbrev steps (l : List α) : List (α × Nat) := stL bd l []
theorem steps_fst (l : List α) : (steps bd l).map (·.1) = l := by rw [steps, stL_fst]; rfl
theorem steps_snoc (l : List α) (e : α) : steps bd (l ++ [e]) = steps bd l ++ [(e, stF bd (steps bd l) e)] := stL_snoc bd l [] e
theorem steps_mem {l : List α} {c : α × Nat} (h : c ∈ steps bd l) : c.1 ∈ l := by
  have : c.1 ∈ (steps bd l).map (·.1) := List.mem_map_of_mem h
  rwa [steps_fst] at this
theorem steps_some {l : List α} {e : α} (h : e ∈ l) : ∃ n, (e, n) ∈ steps bd l := by
  rw [← steps_fst bd l] at h
  obtain ⟨c, hc, rfl⟩ := List.mem_map.1 h
  exact ⟨c.2, hc⟩
theorem steps_one {l : List α} (nd : l.Nodup) {e : α} {n n' : Nat} (h : (e, n) ∈ steps bd l) (h' : (e, n') ∈ steps bd l) : n = n' := by
  have nd2 : ((steps bd l).map (·.1)).Nodup := by rw [steps_fst]; exact nd
  generalize steps bd l = S at *
  induction S with
  | nil => cases h
  | cons c S ih =>
    rw [List.map_cons, List.nodup_cons] at nd2
    rcases List.mem_cons.1 h with e1 | h1
    · rcases List.mem_cons.1 h' with e2 | h2
      · have := e1.trans e2.symm; cases this; rfl
      · exfalso; apply nd2.1; rw [← e1]; exact List.mem_map_of_mem h2 (f := (·.1))
    · rcases List.mem_cons.1 h' with e2 | h2
      · exfalso; apply nd2.1; rw [← e2]; exact List.mem_map_of_mem h1 (f := (·.1))
      · exact ih h1 h2 nd2.2
/-- A step is just behind the last that it is bound to. -/
theorem steps_spec : ∀ {l : List α}, l.Nodup → ∀ {e : α} {n : Nat}, (e, n) ∈ steps bd l → (∀ f k, (f, k) ∈ steps bd l → bd f e = true → [f, e].Sublist l → k < n) ∧ (n = 0 ∨ ∃ f k, (f, k) ∈ steps bd l ∧ bd f e = true ∧ [f, e].Sublist l ∧ k + 1 = n) := by
  intro l
  induction l using rev_ind with
  | nil => intro _ e n h; cases h
  | append_singleton l x ih =>
    intro nd e n h
    have nx : x ∉ l := by have := (nodup_mid (l2 := []) nd).2.1; exact this
    have ndl : l.Nodup := by have := (nodup_mid (l2 := []) nd).1; rwa [List.append_nil] at this
    have no : ∀ {f y : α}, y ∈ l → [f, y].Sublist (l ++ [x]) → [f, y].Sublist l := fun {f y} hy hs => by
      rcases pair_app.1 hs with h | ⟨_, h⟩ | h
      · exact h
      · have : y = x := by simpa using h
        rw [this] at hy; exact absurd hy nx
      · have := (pair_cons.1 h).resolve_right (fun q => by cases q)
        cases this.2
    rw [steps_snoc] at h ⊢
    rcases List.mem_append.1 h with h | h
    · have he := steps_mem bd h
      obtain ⟨g1, g2⟩ := ih ndl h
      refine ⟨fun f k hf hb hs => ?_, g2.imp id fun ⟨f, k, q1, q2, q3, q4⟩ => ⟨f, k, List.mem_append_left _ q1, q2, q3.trans (List.sublist_append_left _ _), q4⟩⟩
      have hs := no he hs
      rcases List.mem_append.1 hf with hf | hf
      · exact g1 f k hf hb hs
      · have : f = x := by have : (f, k) = (x, stF bd (steps bd l) x) := by simpa using hf
                           exact congrArg Prod.fst this
        rw [this] at hs; exact absurd (pair_mem hs).1 nx
    · have ee : (e, n) = (x, stF bd (steps bd l) x) := by simpa using h
      cases ee
      obtain ⟨s1, s2⟩ := stF_spec bd x (steps bd l)
      refine ⟨fun f k hf hb hs => ?_, s2.imp id fun ⟨c, q1, q2, q3⟩ => ⟨c.1, c.2, List.mem_append_left _ q1, q2, pair_app.2 (.inr (.inl ⟨steps_mem bd q1, by simp⟩)), q3⟩⟩
      rcases List.mem_append.1 hf with hf | hf
      · exact s1 (f, k) hf hb
      · have : f = x := by have : (f, k) = (x, stF bd (steps bd l) x) := by simpa using hf
                           exact congrArg Prod.fst this
        rw [this] at hs
        exact absurd rfl (pair_ne nd hs)
/-- Words that are alike have the same steps. -/
theorem steps_alk (sy : ∀ a b, bd a b = bd b a) {es m : List α} (nd : es.Nodup) (h : Alk bd es m) : ∀ e n, (e, n) ∈ steps bd es → (e, n) ∈ steps bd m := by
  obtain ⟨hp, hs⟩ := (alk_iff bd nd).1 h
  have nm := hp.nodup_iff.1 nd
  have hs' := ((alk_iff bd nm).1 (Alk.symm bd sy nd h)).2
  have key : ∀ N (l1 : List α) e l2, l1.length < N → es = l1 ++ e :: l2 → ∀ n n', (e, n) ∈ steps bd es → (e, n') ∈ steps bd m → n = n' := by
    intro N
    induction N with
    | zero => intro l1 e l2 h; omega
    | succ N ih =>
      intro l1 e l2 hl eq n n' h1 h2
      obtain ⟨a1, a2⟩ := steps_spec bd nd h1
      obtain ⟨b1, b2⟩ := steps_spec bd nm h2
      have same : ∀ f k k', [f, e].Sublist es → (f, k) ∈ steps bd es → (f, k') ∈ steps bd m → k = k' := fun f k k' hf hk hk' => by
        have hf1 : f ∈ l1 := by
          rw [eq] at hf nd
          obtain ⟨n1, n2, n3⟩ := nodup_mid nd
          rcases pair_app.1 hf with q | ⟨q, _⟩ | q
          · exact absurd (pair_mem q).2 n2
          · exact q
          · rcases pair_cons.1 q with ⟨rfl, q⟩ | q
            · exact absurd q n3
            · exact absurd (pair_mem q).2 n3
        obtain ⟨c1, c2, rfl⟩ := List.append_of_mem hf1
        exact ih c1 f (c2 ++ e :: l2) (by rw [List.length_append, List.length_cons] at hl; omega) (by rw [eq]; simp) k k' hk hk'
      have le1 : n ≤ n' := by
        rcases a2 with a2 | ⟨f, k, q1, q2, q3, q4⟩
        · omega
        · obtain ⟨k', hk'⟩ := steps_some bd (hp.subset (pair_mem q3).1)
          have := b1 f k' hk' q2 (hs f e q2 q3)
          have := same f k k' q3 q1 hk'
          omega
      have le2 : n' ≤ n := by
        rcases b2 with b2 | ⟨f, k', q1, q2, q3, q4⟩
        · omega
        · have q3' := hs' f e q2 q3
          obtain ⟨k, hk⟩ := steps_some bd (pair_mem q3').1
          have := a1 f k hk q2 q3'
          have := same f k k' q3' hk q1
          omega
      omega
  intro e n hn
  have he := steps_mem bd hn
  obtain ⟨n', hn'⟩ := steps_some bd (hp.subset he)
  obtain ⟨l1, l2, eq⟩ := List.append_of_mem he
  rw [key (l1.length + 1) l1 e l2 (Nat.lt_succ_self _) eq n n' hn hn']
  exact hn'
/-- Who is at a step. -/
def AtS (l : List α) (w n : Nat) : Prop := ∃ e, (e, n) ∈ steps bd l ∧ who e = w
include hw
/-- Words with the same form are alike. -/
theorem alk_form (sy : ∀ a b, bd a b = bd b a) {es m : List α} (nd : es.Nodup) (hp : es.Perm m) (hf : ∀ w, es.filter (fun e => decide (who e = w)) = m.filter fun e => decide (who e = w)) (h : ∀ w n, AtS bd who es w n ↔ AtS bd who m w n) : Alk bd es m := by
  have nm := hp.nodup_iff.1 nd
  -- the steps of an actor's events rise
  have rise : ∀ {l : List α}, l.Nodup → ∀ w (g : α → Nat), (∀ e ∈ l, (e, g e) ∈ steps bd l) → ((l.filter fun e => decide (who e = w)).map g).Pairwise (· < ·) := by
    intro l nl w g hg
    rw [List.pairwise_map, List.pairwise_filter]
    have : l.Pairwise fun a b => [a, b].Sublist l := by
      clear hg
      suffices H : ∀ (p s : List α), p ++ s = l → s.Pairwise fun a b => [a, b].Sublist l from H [] l rfl
      intro p s
      induction s generalizing p with
      | nil => exact fun _ => .nil
      | cons x s ih =>
        intro e
        refine List.pairwise_cons.2 ⟨fun y hy => ?_, ih (p ++ [x]) (by rw [← e]; simp)⟩
        rw [← e]
        exact pair_app.2 (.inr (.inr (pair_cons.2 (.inl ⟨rfl, hy⟩))))
    refine this.imp fun {a b} hab ha hb => ?_
    have ha := of_decide_eq_true ha
    have hb := of_decide_eq_true hb
    exact (steps_spec bd nl (hg b (pair_mem hab).2)).1 a (g a) (hg a (pair_mem hab).1) (hw a b (ha.trans hb.symm)) hab
  have fn : ∀ {l : List α}, l.Nodup → ∃ g : α → Nat, ∀ e ∈ l, (e, g e) ∈ steps bd l := fun {l} nl => by
    refine ⟨fun e => Classical.epsilon fun n => (e, n) ∈ steps bd l, fun e he => ?_⟩
    exact Classical.epsilon_spec (steps_some bd he)
  obtain ⟨g, hg⟩ := fn nd
  obtain ⟨g', hg'⟩ := fn nm
  have eq : ∀ e ∈ es, g e = g' e := fun e he => by
    have r1 := rise nd (who e) g hg
    have r2 := rise nm (who e) g' hg'
    rw [← hf] at r2
    have e1 : (es.filter fun x => decide (who x = who e)).map g = (es.filter fun x => decide (who x = who e)).map g' := by
      refine List.Perm.eq_of_pairwise (le := (· < ·)) (fun a b _ _ h1 h2 => by omega) r1 r2 ?_
      refine (List.perm_ext_iff_of_nodup (r1.imp fun h => by omega) (r2.imp fun h => by omega)).2 fun n => ?_
      constructor
      · intro hn
        obtain ⟨x, hx, rfl⟩ := List.mem_map.1 hn
        obtain ⟨hx1, hx2⟩ := List.mem_filter.1 hx
        obtain ⟨y, y1, y2⟩ := (h (who e) (g x)).1 ⟨x, hg x hx1, of_decide_eq_true hx2⟩
        have ym := steps_mem bd y1
        refine List.mem_map.2 ⟨y, ?_, steps_one bd nm (hg' y ym) y1⟩
        rw [hf]
        exact List.mem_filter.2 ⟨ym, decide_eq_true y2⟩
      · intro hn
        obtain ⟨x, hx, rfl⟩ := List.mem_map.1 hn
        obtain ⟨hx1, hx2⟩ := List.mem_filter.1 hx
        have hxm := hp.subset hx1
        obtain ⟨y, y1, y2⟩ := (h (who e) (g' x)).2 ⟨x, hg' x hxm, of_decide_eq_true hx2⟩
        have ym := steps_mem bd y1
        exact List.mem_map.2 ⟨y, List.mem_filter.2 ⟨ym, decide_eq_true y2⟩, steps_one bd nd (hg y ym) y1⟩
    have hin : e ∈ es.filter fun x => decide (who x = who e) := List.mem_filter.2 ⟨he, decide_eq_true rfl⟩
    exact (List.map_inj_left.1 e1) e hin
  refine (alk_iff bd nd).2 ⟨hp, fun a b hab hs => ?_⟩
  obtain ⟨ma, mb⟩ := pair_mem hs
  have lt := (steps_spec bd nd (hg b mb)).1 a (g a) (hg a ma) hab hs
  rcases pair_tot (hp.subset ma) (hp.subset mb) (pair_ne nd hs) with q | q
  · exact q
  · exfalso
    have lt2 := (steps_spec bd nm (hg' a (hp.subset ma))).1 b (g' b) (hg' b (hp.subset mb)) (by rw [sy]; exact hab) q
    rw [← eq a ma, ← eq b mb] at lt2
    omega
end
end Go.Mx
