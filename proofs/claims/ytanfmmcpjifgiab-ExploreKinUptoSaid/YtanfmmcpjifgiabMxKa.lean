/-
  Traces: words that can be made of one another by changing about neighbours that are not bound.
-/
import Derived.Test.YtanfmmcpjifgiabMxFe
set_option linter.unusedVariables false
set_option linter.unusedSimpArgs false
set_option linter.unusedSectionVars false
namespace Go.Mx

theorem rev_ind {α : Type} {P : List α → Prop} (nil : P []) (append_singleton : ∀ l x, P l → P (l ++ [x])) : ∀ l, P l := by
  have : ∀ n (l : List α), l.length = n → P l := by
    intro n
    induction n with
    | zero => intro l h; rw [List.length_eq_zero_iff.1 h]; exact nil
    | succ n ih =>
      intro l h
      rcases List.eq_nil_or_concat l with rfl | ⟨v, t, rfl⟩
      · cases h
      · rw [List.concat_eq_append] at h ⊢
        rw [List.length_append, List.length_singleton] at h
        exact append_singleton v t (ih v (by omega))
  exact fun l => this _ l rfl
section
variable {α : Type} (bd : α → α → Bool)

/-- m can be made of es: each time the next comes to the front past all that stand ahead of it. -/
def Alk : List α → List α → Prop
  | es, [] => es = []
  | es, e :: m => ∃ l1 l2, es = l1 ++ e :: l2 ∧ (∀ f ∈ l1, bd f e = false) ∧ Alk (l1 ++ l2) m

theorem Alk.refl : ∀ l : List α, Alk bd l l
  | [] => rfl
  | e :: l => ⟨[], l, rfl, fun f hf => (by cases hf), Alk.refl l⟩
theorem Alk.perm : ∀ {m es : List α}, Alk bd es m → es.Perm m
  | [], es, h => by
    have h : es = [] := h
    rw [h]
  | e :: m, es, ⟨l1, l2, h1, h2, h3⟩ => by
    rw [h1]
    exact List.perm_middle.trans (List.Perm.cons e (Alk.perm h3))

theorem pair_mem {l : List α} {a b : α} (h : [a, b].Sublist l) : a ∈ l ∧ b ∈ l := ⟨h.subset (by simp), h.subset (by simp)⟩
theorem pair_app {l1 l2 : List α} {a b : α} : [a, b].Sublist (l1 ++ l2) ↔ [a, b].Sublist l1 ∨ (a ∈ l1 ∧ b ∈ l2) ∨ [a, b].Sublist l2 := by
  rw [List.sublist_append_iff]
  constructor
  · rintro ⟨x, y, h1, h2, h3⟩
    match x, h1 with
    | [], h1 => rw [List.nil_append] at h1; subst h1; exact .inr (.inr h3)
    | [p], h1 =>
      rw [List.singleton_append] at h1
      cases h1
      exact .inr (.inl ⟨h2.subset (by simp), h3.subset (by simp)⟩)
    | [p, q], h1 =>
      cases h1
      exact .inl h2
    | p :: q :: r :: s, h1 => cases h1
  · rintro (h | ⟨h1, h2⟩ | h)
    · exact ⟨[a, b], [], rfl, h, List.nil_sublist _⟩
    · exact ⟨[a], [b], rfl, List.singleton_sublist.2 h1, List.singleton_sublist.2 h2⟩
    · exact ⟨[], [a, b], rfl, List.nil_sublist _, h⟩
theorem pair_cons {l : List α} {a b e : α} : [a, b].Sublist (e :: l) ↔ (a = e ∧ b ∈ l) ∨ [a, b].Sublist l := by
  rw [List.sublist_cons_iff]
  constructor
  · rintro (h | ⟨r, h1, h2⟩)
    · exact .inr h
    · cases h1
      exact .inl ⟨rfl, List.singleton_sublist.1 h2⟩
  · rintro (⟨rfl, h⟩ | h)
    · exact .inr ⟨[b], rfl, List.singleton_sublist.2 h⟩
    · exact .inl h
theorem pair_ne {l : List α} (nd : l.Nodup) {a b : α} (h : [a, b].Sublist l) : a ≠ b := by
  have := nd.sublist h
  rw [List.nodup_cons] at this
  exact fun e => this.1 (by rw [e]; simp)
theorem pair_asym : ∀ {l : List α}, l.Nodup → ∀ {a b : α}, [a, b].Sublist l → ¬ [b, a].Sublist l
  | [], _, a, b, h, _ => by cases h
  | e :: l, nd, a, b, h, h' => by
    rw [List.nodup_cons] at nd
    rcases pair_cons.1 h with ⟨rfl, h1⟩ | h1
    · rcases pair_cons.1 h' with ⟨rfl, h2⟩ | h2
      · exact nd.1 h1
      · exact nd.1 (pair_mem h2).2
    · rcases pair_cons.1 h' with ⟨rfl, h2⟩ | h2
      · exact nd.1 (pair_mem h1).2
      · exact pair_asym nd.2 h1 h2
theorem pair_tot : ∀ {l : List α} {a b : α}, a ∈ l → b ∈ l → a ≠ b → [a, b].Sublist l ∨ [b, a].Sublist l
  | [], a, b, h, _, _ => by cases h
  | e :: l, a, b, ha, hb, hne => by
    rw [pair_cons, pair_cons]
    rcases List.mem_cons.1 ha with rfl | ha2
    · exact .inl (.inl ⟨rfl, (List.mem_cons.1 hb).resolve_left fun q => hne q.symm⟩)
    · rcases List.mem_cons.1 hb with rfl | hb2
      · exact .inr (.inl ⟨rfl, ha2⟩)
      · exact (pair_tot ha2 hb2 hne).imp .inr .inr
theorem pair_mid {l1 l2 : List α} {a b e : α} (h : [a, b].Sublist (l1 ++ l2)) : [a, b].Sublist (l1 ++ e :: l2) := by
  rw [pair_app] at h ⊢
  rcases h with h | ⟨h1, h2⟩ | h
  · exact .inl h
  · exact .inr (.inl ⟨h1, List.mem_cons_of_mem _ h2⟩)
  · exact .inr (.inr (pair_cons.2 (.inr h)))
theorem pair_out {l1 l2 : List α} {a b e : α} (h : [a, b].Sublist (l1 ++ e :: l2)) (ha : a ≠ e) (hb : b ≠ e) : [a, b].Sublist (l1 ++ l2) := by
  rw [pair_app] at h ⊢
  rcases h with h | ⟨h1, h2⟩ | h
  · exact .inl h
  · exact .inr (.inl ⟨h1, (List.mem_cons.1 h2).resolve_left hb⟩)
  · exact .inr (.inr ((pair_cons.1 h).resolve_left fun q => ha q.1))
theorem nodup_mid {l1 l2 : List α} {e : α} (nd : (l1 ++ e :: l2).Nodup) : (l1 ++ l2).Nodup ∧ e ∉ l1 ∧ e ∉ l2 := by
  have h := (List.perm_middle.nodup_iff).1 nd
  rw [List.nodup_cons] at h
  exact ⟨h.2, fun q => h.1 (List.mem_append_left _ q), fun q => h.1 (List.mem_append_right _ q)⟩

/-- Bound ones stand in the same order. -/
def SameO (es m : List α) : Prop := ∀ a b, bd a b = true → [a, b].Sublist es → [a, b].Sublist m
theorem alk_iff : ∀ {m es : List α}, es.Nodup → (Alk bd es m ↔ es.Perm m ∧ SameO bd es m)
  | [], es, nd => by
    constructor
    · intro h
      have h : es = [] := h
      subst h
      exact ⟨.refl _, fun a b _ q => q⟩
    · intro ⟨h, _⟩
      exact h.eq_nil
  | e :: m, es, nd => by
    constructor
    · intro h
      have hp := Alk.perm bd h
      obtain ⟨l1, l2, rfl, h2, h3⟩ := h
      obtain ⟨n1, n2, n3⟩ := nodup_mid nd
      obtain ⟨g1, g2⟩ := (alk_iff n1).1 h3
      refine ⟨hp, fun a b hab hs => ?_⟩
      have hne := pair_ne nd hs
      by_cases ha : a = e
      · subst ha
        have hb : b ∈ a :: m := hp.subset (pair_mem hs).2
        exact pair_cons.2 (.inl ⟨rfl, (List.mem_cons.1 hb).resolve_left fun q => hne q.symm⟩)
      · by_cases hb : b = e
        · subst hb
          exfalso
          rw [pair_app] at hs
          rcases hs with h | ⟨h1, _⟩ | h
          · exact n2 (pair_mem h).2
          · have := h2 a h1; rw [hab] at this; cases this
          · rcases pair_cons.1 h with ⟨rfl, h⟩ | h
            · exact ha rfl
            · exact n3 (pair_mem h).2
        · exact pair_cons.2 (.inr (g2 a b hab (pair_out hs ha hb)))
    · intro ⟨hp, hs⟩
      have he : e ∈ es := hp.symm.subset (by simp)
      obtain ⟨l1, l2, rfl⟩ := List.append_of_mem he
      obtain ⟨n1, n2, n3⟩ := nodup_mid nd
      have nm : (e :: m).Nodup := hp.nodup_iff.1 nd
      have hp2 : (l1 ++ l2).Perm m := (List.perm_middle.symm.trans hp).cons_inv
      refine ⟨l1, l2, rfl, fun f hf => ?_, (alk_iff n1).2 ⟨hp2, fun a b hab h => ?_⟩⟩
      · cases hb : bd f e with
        | false => rfl
        | true =>
          exfalso
          have := hs f e hb (pair_app.2 (.inr (.inl ⟨hf, by simp⟩)))
          rcases pair_cons.1 this with ⟨rfl, _⟩ | h
          · exact n2 hf
          · exact (List.nodup_cons.1 nm).1 (pair_mem h).2
      · rcases pair_cons.1 (hs a b hab (pair_mid h)) with ⟨rfl, _⟩ | h'
        · exfalso
          have := (pair_mem h).1
          rcases List.mem_append.1 this with q | q
          · exact n2 q
          · exact n3 q
        · exact h'
theorem Alk.symm (sy : ∀ a b, bd a b = bd b a) {es m : List α} (nd : es.Nodup) (h : Alk bd es m) : Alk bd m es := by
  obtain ⟨h1, h2⟩ := (alk_iff bd nd).1 h
  have nm := h1.nodup_iff.1 nd
  refine (alk_iff bd nm).2 ⟨h1.symm, fun a b hab hs => ?_⟩
  obtain ⟨ma, mb⟩ := pair_mem hs
  rcases pair_tot (h1.symm.subset ma) (h1.symm.subset mb) (pair_ne nm hs) with q | q
  · exact q
  · exact absurd (h2 b a (by rw [sy]; exact hab) q) (pair_asym nm hs)
theorem Alk.trans {a b c : List α} (nd : a.Nodup) (h1 : Alk bd a b) (h2 : Alk bd b c) : Alk bd a c := by
  obtain ⟨p1, s1⟩ := (alk_iff bd nd).1 h1
  obtain ⟨p2, s2⟩ := (alk_iff bd (p1.nodup_iff.1 nd)).1 h2
  exact (alk_iff bd nd).2 ⟨p1.trans p2, fun x y h q => s2 x y h (s1 x y h q)⟩
/-- The other way round: each time the last. -/
theorem alk_snoc (sy : ∀ a b, bd a b = bd b a) {es m : List α} {e : α} (nd : es.Nodup) : Alk bd es (m ++ [e]) ↔ ∃ l1 l2, es = l1 ++ e :: l2 ∧ (∀ f ∈ l2, bd e f = false) ∧ Alk bd (l1 ++ l2) m := by
  rw [alk_iff bd nd]
  constructor
  · intro ⟨hp, hs⟩
    have he : e ∈ es := hp.symm.subset (by simp)
    obtain ⟨l1, l2, rfl⟩ := List.append_of_mem he
    obtain ⟨n1, n2, n3⟩ := nodup_mid nd
    have nm := hp.nodup_iff.1 nd
    have hp2 : (l1 ++ l2).Perm m := (List.perm_middle.symm.trans (hp.trans (List.perm_append_singleton e m))).cons_inv
    have nem : e ∉ m := by
      have := (nodup_mid (l2 := []) nm).2.1
      exact this
    refine ⟨l1, l2, rfl, fun f hf => ?_, (alk_iff bd n1).2 ⟨hp2, fun a b hab h => ?_⟩⟩
    · cases hb : bd e f with
      | false => rfl
      | true =>
        exfalso
        have := hs e f hb (pair_app.2 (.inr (.inr (pair_cons.2 (.inl ⟨rfl, hf⟩)))))
        rw [pair_app] at this
        rcases this with h | ⟨h, _⟩ | h
        · exact nem (pair_mem h).1
        · exact nem h
        · have := (pair_cons.1 h).resolve_right (fun q => by cases q)
          cases this.2
    · have hne : a ≠ e ∧ b ≠ e := by
        obtain ⟨q1, q2⟩ := pair_mem h
        exact ⟨fun q => (List.mem_append.1 (q ▸ q1)).elim n2 n3, fun q => (List.mem_append.1 (q ▸ q2)).elim n2 n3⟩
      have := hs a b hab (pair_mid h)
      have := pair_out (l2 := []) this hne.1 hne.2
      rwa [List.append_nil] at this
  · rintro ⟨l1, l2, rfl, h2, h3⟩
    obtain ⟨n1, n2, n3⟩ := nodup_mid nd
    obtain ⟨g1, g2⟩ := (alk_iff bd n1).1 h3
    have hp : (l1 ++ e :: l2).Perm (m ++ [e]) := (List.perm_middle.trans (g1.cons e)).trans (List.perm_append_singleton e m).symm
    refine ⟨hp, fun a b hab hs => ?_⟩
    have hne := pair_ne nd hs
    rw [pair_app]
    by_cases hb : b = e
    · subst hb
      refine .inr (.inl ⟨?_, by simp⟩)
      have := hp.subset (pair_mem hs).1
      rcases List.mem_append.1 this with q | q
      · exact q
      · exact absurd (by simpa using q) hne
    · by_cases ha : a = e
      · subst ha
        exfalso
        rw [pair_app] at hs
        rcases hs with h | ⟨h1, _⟩ | h
        · exact n2 (pair_mem h).1
        · exact n2 h1
        · rcases pair_cons.1 h with ⟨_, h⟩ | h
          · have := h2 b h; rw [hab] at this; cases this
          · exact n3 (pair_mem h).1
      · exact .inl (g2 a b hab (pair_out hs ha hb))

/-- What a step does not hang on the order of two that are not bound, words that are alike do. -/
theorem Alk.fold {σ : Type} {f : σ → α → σ} (cm : ∀ s a b, bd a b = false → f (f s a) b = f (f s b) a) : ∀ {m es : List α}, Alk bd es m → ∀ s, es.foldl f s = m.foldl f s
  | [], es, h, s => by
    have h : es = [] := h
    rw [h]
  | e :: m, es, ⟨l1, l2, h1, h2, h3⟩, s => by
    rw [h1]
    have key : ∀ (l1 : List α), (∀ f ∈ l1, bd f e = false) → ∀ s, f (l1.foldl f s) e = l1.foldl f (f s e) := by
      intro l1
      induction l1 with
      | nil => intro _ s; rfl
      | cons x l ih =>
        intro hx s
        show f (l.foldl f (f s x)) e = l.foldl f (f (f s e) x)
        rw [ih (fun y hy => hx y (List.mem_cons_of_mem _ hy)), cm s x e (hx x (by simp))]
    rw [List.foldl_append, List.foldl_cons, List.foldl_cons, key l1 h2, ← List.foldl_append]
    exact Alk.fold cm h3 _
end
end Go.Mx
