/-
  Chapter 22, outright: the law ExploreForms: the normal form, written out, is a script that is alike; the earliest times of the script's dag are the steps.
  Chapter 22, outright: dag.Earliest and dag.Span of small dags; the law ExploreForms.
-/
import Derived.Test.YtipihecaaakagaaMxYd
set_option linter.unusedVariables false
set_option linter.unusedSimpArgs false
set_option linter.unusedSectionVars false
namespace Go.Mx

theorem perm_flatMap {α β : Type} {f g : α → List β} : ∀ {l : List α}, (∀ a ∈ l, (f a).Perm (g a)) → (l.flatMap f).Perm (l.flatMap g)
  | [], _ => List.Perm.refl _
  | a :: l, h => by
    rw [List.flatMap_cons, List.flatMap_cons]
    exact (h a (by simp)).append (perm_flatMap fun b hb => h b (List.mem_cons_of_mem _ hb))
/-- Sorted into buckets. -/
theorem bucket_perm {α : Type} (f : α → Nat) : ∀ (K : Nat) (l : List α), (∀ x ∈ l, f x < K) → ((List.range K).flatMap fun n => l.filter fun x => decide (f x = n)).Perm l
  | 0, l, h => by
    cases l with
    | nil => exact List.Perm.refl _
    | cons x l => exact absurd (h x (by simp)) (Nat.not_lt_zero _)
  | K + 1, l, h => by
    have ih := bucket_perm f K (l.filter fun x => !decide (f x = K)) fun x hx => by
      obtain ⟨h1, h2⟩ := List.mem_filter.1 hx
      have := h x h1
      have : f x ≠ K := by simpa using h2
      omega
    rw [List.range_succ, List.flatMap_append]
    have e1 : ([K].flatMap fun n => l.filter fun x => decide (f x = n)) = l.filter fun x => decide (f x = K) := by simp
    have e2 : ((List.range K).flatMap fun n => l.filter fun x => decide (f x = n)) = (List.range K).flatMap fun n => (l.filter fun x => !decide (f x = K)).filter fun x => decide (f x = n) := by
      have he : ∀ {L : List Nat}, (∀ n ∈ L, n < K) → (L.flatMap fun n => l.filter fun x => decide (f x = n)) = L.flatMap fun n => (l.filter fun x => !decide (f x = K)).filter fun x => decide (f x = n) := fun {L} hL => by
        induction L with
        | nil => rfl
        | cons n L ih2 =>
          rw [List.flatMap_cons, List.flatMap_cons, ih2 fun m hm => hL m (List.mem_cons_of_mem _ hm), List.filter_filter]
          congr 1
          refine List.filter_congr fun x _ => ?_
          have hn := hL n (by simp)
          by_cases c : f x = n
          · have : f x ≠ K := by omega
            simp [c]; omega
          · simp [c]
      exact he fun n hn => List.mem_range.1 hn
    rw [e1, e2]
    exact (ih.append_right _).trans (List.perm_append_comm.trans (List.filter_append_perm _ l))
theorem pair_flat {α : Type} {f : Nat → List α} {a b : α} {k n : Nat} (ha : a ∈ f k) (hb : b ∈ f n) (h : k < n) : ∀ {K : Nat}, n < K → [a, b].Sublist ((List.range K).flatMap f)
  | K + 1, hK => by
    rw [List.range_succ, List.flatMap_append]
    have e1 : [K].flatMap f = f K := by simp
    rw [e1, pair_app]
    by_cases c : n = K
    · subst c
      exact .inr (.inl ⟨List.mem_flatMap.2 ⟨k, List.mem_range.2 h, ha⟩, hb⟩)
    · exact .inl (pair_flat ha hb h (by omega))

section
variable {sz len : Int} {xss : List (List Ac)} {p : List Int}
/-- The events of a step. -/
def lvlE (S : List (Ev × Nat)) (n : Nat) : List Ev := (S.filter fun c => decide (c.2 = n)).map (·.1)
def lvlW (S : List (Ev × Nat)) (nA n : Nat) : List Ev := (List.range nA).flatMap fun w => (lvlE S n).filter fun e => decide (whoE e = w)
def flatE (S : List (Ev × Nat)) (nA K : Nat) : List Ev := (List.range K).flatMap (lvlW S nA)
theorem flatE_perm {S : List (Ev × Nat)} {nA K : Nat} (hw : ∀ c ∈ S, whoE c.1 < nA) (hK : ∀ c ∈ S, c.2 < K) : (flatE S nA K).Perm (S.map (·.1)) := by
  have h1 : (flatE S nA K).Perm ((List.range K).flatMap (lvlE S)) := perm_flatMap fun n _ => bucket_perm whoE nA (lvlE S n) fun e he => by
    obtain ⟨c, hc, rfl⟩ := List.mem_map.1 he
    exact hw c (List.mem_filter.1 hc).1
  have h2 : ((List.range K).flatMap (lvlE S)) = ((List.range K).flatMap fun n => S.filter fun c => decide (c.2 = n)).map (·.1) := by
    rw [List.map_flatMap]; rfl
  refine h1.trans ?_
  rw [h2]
  exact (bucket_perm (fun c : Ev × Nat => c.2) K S hK).map _
theorem lvlW_mem {S : List (Ev × Nat)} {nA n : Nat} {e : Ev} (h : (e, n) ∈ S) (hw : whoE e < nA) : e ∈ lvlW S nA n :=
  List.mem_flatMap.2 ⟨whoE e, List.mem_range.2 hw, List.mem_filter.2 ⟨List.mem_map.2 ⟨(e, n), List.mem_filter.2 ⟨h, decide_eq_true rfl⟩, rfl⟩, decide_eq_true rfl⟩⟩
theorem flatE_alk {es : List Ev} (nd : es.Nodup) {nA K : Nat} (hw : ∀ e ∈ es, whoE e < nA) (hK : ∀ c ∈ steps (bdE sz len xss) es, c.2 < K) : Alk (bdE sz len xss) es (flatE (steps (bdE sz len xss) es) nA K) := by
  have hp := flatE_perm (nA := nA) (fun c hc => hw _ (steps_mem (bdE sz len xss) hc)) hK
  rw [steps_fst] at hp
  refine (alk_iff (bdE sz len xss) nd).2 ⟨hp.symm, fun a b hab hs => ?_⟩
  obtain ⟨ma, mb⟩ := pair_mem hs
  obtain ⟨k, hk⟩ := steps_some (bdE sz len xss) ma
  obtain ⟨n, hn⟩ := steps_some (bdE sz len xss) mb
  have hlt := (steps_spec (bdE sz len xss) nd hn).1 a k hk hab hs
  exact pair_flat (lvlW_mem hk (hw a ma)) (lvlW_mem hn (hw b mb)) hlt (hK _ hn)

theorem script_who (hp : ScriptP (xss.map List.length) p) : ∀ e ∈ evL p, 0 ≤ e.1 ∧ whoE e < xss.length := fun e he => by
  have hin := hp.1
  rw [List.length_map] at hin
  have : e.1 ∈ p := by rw [← evL_fst p]; exact List.mem_map_of_mem he
  have := hin _ this
  exact ⟨this.1, by unfold whoE; omega⟩
/-- The form of a script. -/
def frm (sz len : Int) (xss : List (List Ac)) (p : List Int) : List (List Int) := foataP sz len xss p 0
theorem frm_len : (frm sz len xss p).length = (formR (foaS sz len xss p)).length := by unfold frm foataP; rw [if_pos rfl, List.length_map, List.length_range]
theorem frm_lt {c : Ev × Nat} (h : c ∈ steps (bdE sz len xss) (evL p)) : c.2 < (frm sz len xss p).length := by
  rw [frm_len]
  have : (gE xss c.1, c.2) ∈ foaS sz len xss p := by unfold foaS; rw [foaS_ev]; exact List.mem_map.2 ⟨c, h, rfl⟩
  exact formR_lt _ _ this
theorem frm_row (hp : ScriptP (xss.map List.length) p) {n : Nat} (hn : n < (frm sz len xss p).length) : (frm sz len xss p)[n]? = some ((lvlW (steps (bdE sz len xss) (evL p)) xss.length n).map (·.1)) := by
  have hn' := hn
  rw [frm_len] at hn'
  unfold frm foataP
  rw [if_pos rfl, List.getElem?_map, List.getElem?_range hn']
  show some (refRow (foaS sz len xss p) xss.length n) = _
  congr 1
  unfold refRow lvlW
  rw [List.map_flatMap]
  congr 1
  funext w
  have hraw : rawR (foaS sz len xss p) n = (lvlE (steps (bdE sz len xss) (evL p)) n).map (·.1) := by
    unfold rawR lvlE foaS
    rw [foaS_ev, List.filter_map, List.map_map, List.map_map]
    rfl
  rw [hraw, List.filter_map]
  congr 1
  refine List.filter_congr fun e he => ?_
  have hm : e ∈ evL p := by
    obtain ⟨c, hc, rfl⟩ := List.mem_map.1 he
    exact steps_mem (bdE sz len xss) (List.mem_filter.1 hc).1
  have h0 := (script_who hp e hm).1
  show decide (e.1 = (w : Int)) = decide (whoE e = w)
  unfold whoE
  by_cases c : e.1 = (w : Int)
  · rw [decide_eq_true c, decide_eq_true (by omega)]
  · rw [decide_eq_false c, decide_eq_false (by omega)]
theorem flatten_get {α : Type} {L : List (List α)} {f : Nat → List α} (h : ∀ n, n < L.length → L[n]? = some (f n)) : L.flatten = (List.range L.length).flatMap f := by
  have : L = (List.range L.length).map f := by
    apply List.ext_getElem?
    intro i
    by_cases c : i < L.length
    · rw [h i c, List.getElem?_map, List.getElem?_range c]; rfl
    · rw [List.getElem?_eq_none (by omega), List.getElem?_eq_none (by simp; omega)]
  conv => lhs; rw [this]
  rw [List.flatMap_def]
/-- The form, written out, is a script that is alike. -/
theorem frm_flat (hp : ScriptP (xss.map List.length) p) : ScriptP (xss.map List.length) (frm sz len xss p).flatten ∧ Alk (bdE sz len xss) (evL p) (evL (frm sz len xss p).flatten) := by
  have nd := script_nodup hp
  have hw := script_who hp
  have ha : Alk (bdE sz len xss) (evL p) (flatE (steps (bdE sz len xss) (evL p)) xss.length (frm sz len xss p).length) := flatE_alk nd (fun e he => (hw e he).2) fun c hc => frm_lt hc
  have hf : (frm sz len xss p).flatten = (flatE (steps (bdE sz len xss) (evL p)) xss.length (frm sz len xss p).length).map (·.1) := by
    rw [flatten_get fun n hn => frm_row hp hn]
    unfold flatE
    rw [List.map_flatMap]
  have hperm : p.Perm (frm sz len xss p).flatten := by
    have := (Alk.perm (bdE sz len xss) ha).map (·.1)
    rwa [evL_fst, ← hf] at this
  have hS := script_perm hperm hp
  have h0 : ∀ x ∈ p, 0 ≤ x := fun x hx => (hp.1 x hx).1
  have h0' : ∀ x ∈ (frm sz len xss p).flatten, 0 ≤ x := fun x hx => (hS.1 x hx).1
  have hm : flatE (steps (bdE sz len xss) (evL p)) xss.length (frm sz len xss p).length = evL (frm sz len xss p).flatten := word_one (by rw [evL_fst, hf]) fun w => by
    rw [← alk_filt nd (fun e he => (hw e he).1) ha w, evL_filter p h0 w, evL_filter _ h0' w, cnt_perm hperm]
  exact ⟨hS, by rw [← hm]; exact ha⟩
end

/-! ### the dag -/
def mxI (a b : Int) : Int := if a < b then b else a
/-- The longest paths, by the rows of what is ahead. -/
def earl (rows : List (List Int)) : Nat → List Int
  | 0 => []
  | i + 1 => earl rows i ++ [(((rows[i]?).getD []).foldl (fun n k => mxI n (((earl rows i)[k.toNat]?).getD 0)) 0) + 1]
theorem earl_len (rows : List (List Int)) : ∀ i, (earl rows i).length = i
  | 0 => rfl
  | i + 1 => by unfold earl; rw [List.length_append, earl_len rows i]; rfl
theorem mx_fold {f : Int → Int} {B : Int} : ∀ {l : List Int} {n : Int}, 0 ≤ n → n ≤ B → (∀ k ∈ l, 0 ≤ f k ∧ f k ≤ B) → 0 ≤ l.foldl (fun n k => mxI n (f k)) n ∧ l.foldl (fun n k => mxI n (f k)) n ≤ B
  | [], n, h0, h1, _ => ⟨h0, h1⟩
  | k :: l, n, h0, h1, h => by
    rw [List.foldl_cons]
    have hk := h k (by simp)
    exact mx_fold (by unfold mxI; split <;> omega) (by unfold mxI; split <;> omega) fun j hj => h j (List.mem_cons_of_mem _ hj)
theorem earl_bnd (rows : List (List Int)) : ∀ (i : Nat), ∀ x ∈ earl rows i, 0 ≤ x ∧ x ≤ (i : Int)
  | 0, x, h => by cases h
  | i + 1, x, h => by
    unfold earl at h
    have ih := earl_bnd rows i
    rcases List.mem_append.1 h with h | h
    · have := ih x h; omega
    · rw [List.mem_singleton.1 h]
      have := mx_fold (f := fun k => ((earl rows i)[k.toNat]?).getD 0) (B := (i : Int)) (l := (rows[i]?).getD []) (Int.le_refl 0) (Int.natCast_nonneg i) fun k _ => by
        cases hk : (earl rows i)[k.toNat]? with
        | none => exact ⟨Int.le_refl 0, Int.natCast_nonneg i⟩
        | some y => exact ih y (List.mem_of_getElem? hk)
      omega
theorem foldl_mx_if {α : Type} (g : α → Nat) (q : α → Bool) : ∀ (l : List α) (n : Nat), ((l.foldl (fun n c => if q c = true then max n (g c + 1) else n) n : Nat) : Int) = ((l.filter q).map fun c => ((g c + 1 : Nat) : Int)).foldl mxI (n : Int)
  | [], n => rfl
  | c :: l, n => by
    rw [List.foldl_cons, foldl_mx_if g q l]
    cases h : q c with
    | false => rw [List.filter_cons_of_neg (by rw [h]; decide)]; rfl
    | true =>
      rw [List.filter_cons_of_pos h, List.map_cons, List.foldl_cons, if_pos rfl]
      congr 1
      unfold mxI
      split <;> omega
/-- Which are ahead of the j-th. -/
def aheadR (bd : Ev → Ev → Bool) (es : List Ev) (j : Nat) : List Int := ((List.range j).filter fun i => bd ((es[i]?).getD (0, 0)) ((es[j]?).getD (0, 0))).map fun i : Nat => (i : Int)
/-- The earliest times are the steps. -/
theorem earl_steps (bd : Ev → Ev → Bool) (es : List Ev) {rows : List (List Int)} (hr : ∀ j, j < es.length → rows[j]? = some (aheadR bd es j)) : ∀ i, i ≤ es.length → earl rows i = ((steps bd es).take i).map fun c => ((c.2 + 1 : Nat) : Int) := by
  have hsl : (steps bd es).length = es.length := steps_len bd es
  intro i
  induction i with
  | zero => intro _; rw [List.take_zero]; rfl
  | succ i ih =>
    intro hi
    have ih := ih (by omega)
    have hlt : i < (steps bd es).length := by omega
    have htk : steps bd (es.take i) = (steps bd es).take i := by
      have h1 : es = es.take i ++ es.drop i := (List.take_append_drop i es).symm
      have key : ∀ (a b : List Ev), (steps bd (a ++ b)).take a.length = steps bd a := fun a b => by
        induction b using rev_ind with
        | nil => rw [List.append_nil, List.take_of_length_le (by rw [steps_len]; exact Nat.le_refl _)]
        | append_singleton b x ih2 =>
          rw [← List.append_assoc, steps_snoc, List.take_append_of_le_length (by rw [steps_len, List.length_append]; omega), ih2]
      have := key (es.take i) (es.drop i)
      rw [List.take_append_drop] at this
      rw [← this, List.length_take, Nat.min_eq_left (by omega)]
    have hei : es[i]? = some es[i] := List.getElem?_eq_getElem (by omega)
    have hSi : (steps bd es)[i] = (es[i], stF bd ((steps bd es).take i) es[i]) := by
      have h2 : steps bd (es.take (i + 1)) = steps bd (es.take i) ++ [(es[i], stF bd (steps bd (es.take i)) es[i])] := by rw [take_succ' es (by omega), steps_snoc]
      have h3 : steps bd (es.take (i + 1)) = (steps bd es).take (i + 1) := by
        have key : ∀ (a b : List Ev), (steps bd (a ++ b)).take a.length = steps bd a := fun a b => by
          induction b using rev_ind with
          | nil => rw [List.append_nil, List.take_of_length_le (by rw [steps_len]; exact Nat.le_refl _)]
          | append_singleton b x ih2 =>
            rw [← List.append_assoc, steps_snoc, List.take_append_of_le_length (by rw [steps_len, List.length_append]; omega), ih2]
        have := key (es.take (i + 1)) (es.drop (i + 1))
        rw [List.take_append_drop] at this
        rw [← this, List.length_take, Nat.min_eq_left (by omega)]
      rw [h3, htk, take_succ' _ hlt] at h2
      exact List.cons.inj (List.append_cancel_left h2) |>.1
    unfold earl
    rw [take_succ' _ hlt, List.map_append, List.map_singleton, ih]
    congr 2
    rw [hr i (by omega), hSi]
    dsimp only [Option.getD]
    -- the greatest of those ahead
    unfold aheadR stF
    rw [Int.natCast_add, foldl_mx_if (fun c : Ev × Nat => c.2) (fun c => bd c.1 es[i])]
    congr 1
    have hacc : (steps bd es).take i = (List.range i).map fun k => ((steps bd es)[k]?).getD ((0, 0), 0) := by
      apply List.ext_getElem?
      intro k
      by_cases c : k < i
      · rw [List.getElem?_take, if_pos c, List.getElem?_map, List.getElem?_range c]
        show _ = some (((steps bd es)[k]?).getD _)
        rw [List.getElem?_eq_getElem (by omega)]; rfl
      · rw [List.getElem?_eq_none (by rw [List.length_take]; omega), List.getElem?_eq_none (by simp; omega)]
    rw [List.foldl_map]
    have hfst : ∀ k, k < es.length → (((steps bd es)[k]?).getD ((0, 0), 0)).1 = (es[k]?).getD (0, 0) := fun k hk => by
      have h5 : ((steps bd es).map (·.1))[k]? = es[k]? := by rw [steps_fst]
      rw [List.getElem?_map] at h5
      rw [List.getElem?_eq_getElem (by omega)] at h5 ⊢
      rw [← h5]; rfl
    have hflt : ((steps bd es).take i).filter (fun c => bd c.1 es[i]) = ((List.range i).filter fun k => bd ((es[k]?).getD (0, 0)) ((es[i]?).getD (0, 0))).map fun k => ((steps bd es)[k]?).getD ((0, 0), 0) := by
      conv => lhs; rw [hacc]
      rw [List.filter_map]
      congr 1
      refine List.filter_congr fun k hk => ?_
      have hk := List.mem_range.1 hk
      show bd (((steps bd es)[k]?).getD ((0, 0), 0)).1 es[i] = _
      rw [hfst k (by omega), hei]; rfl
    rw [hflt, List.map_map, List.foldl_map]
    have hcong : ∀ (L : List Nat) (n : Int), (∀ k ∈ L, k < i) → L.foldl (fun n k => mxI n (((((steps bd es).take i).map fun c : Ev × Nat => ((c.2 + 1 : Nat) : Int))[((k : Nat) : Int).toNat]?).getD 0)) n = L.foldl (fun n k => mxI n (((((steps bd es)[k]?).getD ((0, 0), 0)).2 + 1 : Nat) : Int)) n := fun L => by
      induction L with
      | nil => intro n _; rfl
      | cons k L ih3 =>
        intro n hL
        rw [List.foldl_cons, List.foldl_cons, ih3 _ fun j hj => hL j (List.mem_cons_of_mem _ hj)]
        congr 2
        have hk := hL k (by simp)
        rw [Int.toNat_natCast, List.getElem?_map, List.getElem?_take, if_pos hk, List.getElem?_eq_getElem (by omega)]; rfl
    exact hcong _ 0 fun k hk => List.mem_range.1 (List.mem_filter.1 hk).1
/-- The greatest of all. -/
theorem earl_span {S : List (Ev × Nat)} {K : Nat} (hK : ∀ c ∈ S, c.2 < K) (hex : K = 0 ∨ ∃ c ∈ S, c.2 + 1 = K) : (S.map fun c => ((c.2 + 1 : Nat) : Int)).foldl mxI 0 = (K : Int) := by
  have up : ∀ (S : List (Ev × Nat)) (n : Int), (∀ c ∈ S, c.2 < K) → n ≤ (K : Int) → (S.map fun c => ((c.2 + 1 : Nat) : Int)).foldl mxI n ≤ (K : Int) ∧ n ≤ (S.map fun c => ((c.2 + 1 : Nat) : Int)).foldl mxI n ∧ ∀ c ∈ S, ((c.2 + 1 : Nat) : Int) ≤ (S.map fun c => ((c.2 + 1 : Nat) : Int)).foldl mxI n := fun S => by
    induction S with
    | nil => intro n _ h; exact ⟨h, Int.le_refl _, fun c hc => (by cases hc)⟩
    | cons c S ih =>
      intro n hS hn
      rw [List.map_cons, List.foldl_cons]
      have hc := hS c (by simp)
      obtain ⟨a1, a2, a3⟩ := ih (mxI n ((c.2 + 1 : Nat) : Int)) (fun d hd => hS d (List.mem_cons_of_mem _ hd)) (by unfold mxI; split <;> omega)
      have m1 : n ≤ mxI n ((c.2 + 1 : Nat) : Int) := by unfold mxI; split <;> omega
      have m2 : ((c.2 + 1 : Nat) : Int) ≤ mxI n ((c.2 + 1 : Nat) : Int) := by unfold mxI; split <;> omega
      refine ⟨a1, by omega, fun d hd => ?_⟩
      rcases List.mem_cons.1 hd with rfl | hd
      · omega
      · exact a3 d hd
  obtain ⟨a1, a2, a3⟩ := up S 0 hK (Int.natCast_nonneg K)
  rcases hex with h | ⟨c, hc, h⟩
  · omega
  · have := a3 c hc; omega
end Go.Mx

namespace Go.Mx

abbrev Eg := Den K2
def eF (e : Eg) : Int := e.1
def eT (e : Eg) : Int := e.2.1
def EdgesOk (N : Nat) (es : List Eg) : Prop := ∀ e ∈ es, 0 ≤ eF e ∧ eF e < eT e ∧ eT e < (N : Int)
def rowsE (N : Nat) (es : List Eg) : List (List Int) := (List.range N).map fun i : Nat => (es.filter fun e => decide (eT e = (i : Int))).map fun e => eF e
theorem rowsE_len (N : Nat) (es : List Eg) : (rowsE N es).length = N := by simp [rowsE]
theorem rowsE_at {N : Nat} {es : List Eg} {i : Nat} (h : i < N) : (rowsE N es)[i]? = some ((es.filter fun e => decide (eT e = (i : Int))).map fun e => eF e) := by
  unfold rowsE
  rw [List.getElem?_map, List.getElem?_range h]; rfl
theorem rowsE_snoc {N : Nat} {es : List Eg} {e : Eg} {t : Nat} (ht : eT e = (t : Int)) (h : t < N) {row : List Int} (hr : (rowsE N es)[t]? = some row) : rowsE N (es ++ [e]) = (rowsE N es).set t (row ++ [eF e]) := by
  apply List.ext_getElem?
  intro i
  by_cases c : i < N
  · rw [rowsE_at c, List.filter_append, List.map_append]
    by_cases d : t = i
    · subst d
      rw [List.getElem?_set_self (by rw [rowsE_len]; exact h), List.filter_cons_of_pos (p := fun e : Eg => decide (eT e = (t : Int))) (decide_eq_true ht)]
      rw [rowsE_at h] at hr
      rw [← Option.some.inj hr]; rfl
    · rw [List.getElem?_set_ne d, rowsE_at c, List.filter_cons_of_neg (by rw [decide_eq_true_eq]; omega)]
      simp
  · rw [List.getElem?_eq_none (by rw [rowsE_len]; omega), List.getElem?_eq_none (by rw [List.length_set, rowsE_len]; omega)]

theorem dcheck_spec {N : Nat} {l : Sl} {es : List Eg} {h : Heap} (he : Arr h K2 l es) (ok : EdgesOk N es) (hN : N ≤ 4096) (hE : es.length ≤ 16384) {Q : Int → Heap → Prop} (hQ : Q 0 h) : dag_Check.M ((N : Int), (l, ())) h Q := by
  have hl := he.1
  refine dcs (fun q => absurd (show (N : Int) < 0 from q) (by omega)) (fun _ => ⟨fun q => absurd (show (4096 : Int) < (N : Int) from of_decide_eq_true q) (by omega), fun _ => dcs (fun q => absurd (show (16384 : Int) < (l.len : Int) from q) (by omega)) (fun _ => ?_)⟩)
  refine Loop.up es.length (fun s => s.1) (fun i st k => k = h) rfl rfl ?_
  rintro i ⟨i', u⟩ k go hi hc rfl hgo
  dsimp only at hc; subst hc
  refine dcs (fun e => ?_) (fun e => ?_)
  · have e : (i : Int) < (l.len : Int) := e
    have hil : i < es.length := by omega
    refine ⟨⟨Int.natCast_nonneg i, e⟩, he.at (Int.natCast_nonneg i) e rfl fun x hx => ?_⟩
    rw [Int.toNat_natCast] at hx
    obtain ⟨a, b, c⟩ := ok x (List.mem_of_getElem? hx)
    refine dcs (fun q => absurd (show eF x < 0 from q) (by omega)) (fun _ => dcs (fun q => absurd (show eT x ≤ eF x from q) (by omega)) (fun _ => ⟨fun q => absurd (show (N : Int) ≤ eT x from of_decide_eq_true q) (by omega), fun _ => ?_⟩))
    exact hgo hil _ _ (w64_up' (n := es.length) hil (by omega)) rfl
  · exact hQ
theorem dahead_spec {N : Nat} {l : Sl} {es : List Eg} {h : Heap} (he : Arr h K2 l es) (ok : EdgesOk N es) (hN : N ≤ 4096) (hE : es.length ≤ 16384) {Q : Sl → Heap → Prop} (hQ : ∀ o els h', Nest h h' ki o els (rowsE N es) → Q o h') : dag_ahead.M ((N : Int), (l, ())) h Q := by
  have hl := he.1
  refine make_new (k := .sl) (Int.natCast_nonneg N) (Int.le_refl _) (by show ((24 : Nat) : Int) * (N : Int) ≤ _; omega) (by show (N : Int) ≤ _; omega) fun s3 h4 n4 l4 _ _ => ?_
  rw [Int.toNat_natCast] at n4 l4
  have nst : Nest h h4 ki s3 (List.replicate N Sl.none) (rowsE N []) := by
    have : rowsE N [] = List.replicate N [] := by
      apply List.ext_getElem
      · simp [rowsE]
      · intro i _ _; simp [rowsE]
    rw [this]; exact Nest.init n4
  refine Loop.up es.length (fun s => s.1) (fun i st k => ∃ els, Nest h k ki s3 els (rowsE N (es.take i))) rfl ⟨_, nst⟩ ?_
  rintro i ⟨i', u⟩ k go hi hc ⟨els, n⟩ hgo
  dsimp only at hc; subst hc
  have hel := n.len
  rw [rowsE_len] at hel
  have hol := n.out.len
  refine dcs (fun e => ?_) (fun e => ?_)
  · have e : (i : Int) < (l.len : Int) := e
    have hil : i < es.length := by omega
    refine ⟨⟨Int.natCast_nonneg i, e⟩, (he.le n.le).at (Int.natCast_nonneg i) e rfl fun x hx => ?_⟩
    rw [Int.toNat_natCast, List.getElem?_eq_getElem hil] at hx
    obtain rfl := Option.some.inj hx
    obtain ⟨a, b, c⟩ := ok _ (List.getElem_mem hil)
    obtain ⟨t, ht⟩ : ∃ t : Nat, eT es[i] = (t : Int) := ⟨(eT es[i]).toNat, by omega⟩
    have htN : t < N := by omega
    have hte : els[t]? = some (els[t]'(by omega)) := List.getElem?_eq_getElem (by omega)
    have hrow := rowsE_at (es := es.take i) htN
    have nr := n.row t _ _ hte hrow
    have hrl := nr.len
    have hrb : (((es.take i).filter fun e => decide (eT e = (t : Int))).map fun e => eF e).length ≤ i := by
      rw [List.length_map]
      have := List.length_filter_le (fun e : Eg => decide (eT e = (t : Int))) (es.take i)
      rw [List.length_take] at this; omega
    have hb : 0 ≤ eT es[i] ∧ eT es[i] < (s3.len : Int) := ⟨by omega, by omega⟩
    refine ⟨hb, n.out.arr.at hb.1 hb.2 rfl fun sl hsl => ?_⟩
    have hti : (eT es[i]).toNat = t := by omega
    rw [hti, hte] at hsl
    obtain rfl := Option.some.inj hsl
    refine nr.app3 rfl rfl (by show ((els[t]'(by omega)).len + 1) * 8 ≤ _; omega) fun t14 h15 n15 x15 b15 => ?_
    refine ⟨hb, n.put (i := t) ht hte n15 x15 b15 rfl fun h17 n17 _ => ?_⟩
    refine hgo hil _ _ (w64_up' (n := es.length) hil (by omega)) ⟨els.set t t14, ?_⟩
    rw [take_succ' es hil, rowsE_snoc ht htN hrow]
    exact n17
  · have e : ¬ (i : Int) < (l.len : Int) := e
    obtain rfl : i = es.length := by omega
    rw [List.take_length] at n
    exact hQ s3 els k n
theorem earliest_spec {N : Nat} {l : Sl} {es : List Eg} {h : Heap} (he : Arr h K2 l es) (ok : EdgesOk N es) (hN : N ≤ 4096) (hE : es.length ≤ 16384) {c1 : Den kapiDag → Heap → (Int → Heap → Prop) → Prop} {c2 : Den kapiDag → Heap → (Sl → Heap → Prop) → Prop}
    (i1 : ∀ {d h Q}, dag_Check.M d h Q → c1 d h Q) (i2 : ∀ {d h Q}, dag_ahead.M d h Q → c2 d h Q) {Q : (Sl × (Int × Unit)) → Heap → Prop} (hQ : ∀ o h', New h h' ki o (earl (rowsE N es) N) → Q (o, (0, ())) h') : dag_Earliest.M c1 c2 ((N : Int), (l, ())) h Q := by
  refine i1 (dcheck_spec he ok hN hE (dcs (fun q => absurd rfl q) (fun _ => i2 (dahead_spec he ok hN hE fun r5 els h6 n6 => ?_))))
  have hel := n6.len
  rw [rowsE_len] at hel
  have hol := n6.out.len
  refine make_new (k := ki) (Int.natCast_nonneg N) (Int.le_refl _) (by show ((8 : Nat) : Int) * (N : Int) ≤ _; omega) (by show (N : Int) ≤ _; omega) fun s7 h8 n8 l8 _ _ => ?_
  rw [Int.toNat_natCast] at n8 l8
  have l8 : s7.len = N := l8
  have n8 : New h6 h8 ki s7 (List.replicate N (0 : Int)) := n8
  refine Loop.up N (fun s => s.1) (fun i st k => New h6 k ki s7 (earl (rowsE N es) i ++ List.replicate (N - i) 0)) rfl n8 ?_
  rintro i ⟨i', u⟩ k go hi hc n hgo
  dsimp only at hc; subst hc
  have hll := earl_len (rowsE N es) i
  refine dcs (fun e => ?_) (fun e => ?_)
  · have e : (i : Int) < (N : Int) := e
    have hiN : i < N := by omega
    have hie : els[i]? = some (els[i]'(by omega)) := List.getElem?_eq_getElem (by omega)
    have hrow := rowsE_at (es := es) hiN
    generalize hR : (es.filter fun e => decide (eT e = (i : Int))).map (fun e => eF e) = R at hrow
    have hRb : ∀ k ∈ R, 0 ≤ k ∧ k < (i : Int) := fun k hk => by
      rw [← hR] at hk
      obtain ⟨x, hx, rfl⟩ := List.mem_map.1 hk
      obtain ⟨h1, h2⟩ := List.mem_filter.1 hx
      have h2 := of_decide_eq_true h2
      obtain ⟨a, b, c⟩ := ok x h1
      omega
    have hRl : R.length ≤ 16384 := by
      rw [← hR, List.length_map]
      exact Nat.le_trans (List.length_filter_le _ _) hE
    have nr := n6.row i _ _ hie hrow
    have hrl := nr.len
    refine ⟨⟨Int.natCast_nonneg i, by omega⟩, (n6.out.arr.le n.le).at (Int.natCast_nonneg i) (by omega) rfl fun sl hsl => ?_⟩
    rw [Int.toNat_natCast, hie] at hsl
    obtain rfl := Option.some.inj hsl
    have hsplit : List.replicate (N - i) (0 : Int) = 0 :: List.replicate (N - (i + 1)) 0 := by
      rw [show N - i = (N - (i + 1)) + 1 from by omega, List.replicate_succ]
    rw [hsplit] at n
    obtain ⟨L, hE2⟩ : ∃ L, earl (rowsE N es) i = L := ⟨_, rfl⟩
    rw [hE2] at n hll
    have at0 : ∀ (v : Int), (L ++ v :: List.replicate (N - (i + 1)) 0)[i]? = some v := fun v => by
      rw [List.getElem?_append_right (by omega), hll, Nat.sub_self]; rfl
    have atk : ∀ (v : Int) (j : Nat), j < i → (L ++ v :: List.replicate (N - (i + 1)) 0)[j]? = some ((L[j]?).getD 0) := fun v j hj => by
      rw [List.getElem?_append_left (by omega), List.getElem?_eq_getElem (by omega)]; rfl
    have st0 : ∀ (v w : Int), (L ++ v :: List.replicate (N - (i + 1)) 0).set i w = L ++ w :: List.replicate (N - (i + 1)) 0 := fun v w => by
      rw [List.set_append_right _ _ (by omega), hll, Nat.sub_self]; rfl
    have hib : (0 : Int) ≤ (i : Int) ∧ (i : Int) < (s7.len : Int) := by omega
    have hbnd := earl_bnd (rowsE N es) i
    rw [hE2] at hbnd
    have hfb : ∀ k : Int, 0 ≤ ((L[k.toNat]?).getD 0) ∧ ((L[k.toNat]?).getD 0) ≤ (i : Int) := fun k => by
      cases hk : L[k.toNat]? with
      | none => exact ⟨Int.le_refl 0, Int.natCast_nonneg i⟩
      | some y => exact hbnd y (List.mem_of_getElem? hk)
    refine Loop.up R.length (fun s => s.1) (fun j st k2 => New h6 k2 ki s7 (L ++ ((R.take j).foldl (fun n k => mxI n ((L[k.toNat]?).getD 0)) 0) :: List.replicate (N - (i + 1)) 0)) rfl n ?_
    rintro j ⟨j', u2⟩ k2 go2 hj hc2 m hgo2
    dsimp only at hc2; subst hc2
    have hml := m.len
    generalize hv : (R.take j).foldl (fun n k => mxI n ((L[k.toNat]?).getD 0)) 0 = v at m
    refine dcs (fun e2 => ?_) (fun e2 => ?_)
    · have e2 : (j : Int) < ((els[i]'(by omega)).len : Int) := e2
      have hjR : j < R.length := by omega
      refine ⟨⟨Int.natCast_nonneg j, e2⟩, (nr.arr.le m.le).at (Int.natCast_nonneg j) e2 rfl fun x hx => ?_⟩
      rw [Int.toNat_natCast, List.getElem?_eq_getElem hjR] at hx
      obtain rfl := Option.some.inj hx
      obtain ⟨r0, r1⟩ := hRb _ (List.getElem_mem hjR)
      refine m.arr.twoK hib.1 hib.2 r0 (by omega) rfl fun x y hx hy => ?_
      rw [Int.toNat_natCast, at0] at hx
      rw [atk _ _ (by omega)] at hy
      obtain rfl := Option.some.inj hx
      obtain rfl := Option.some.inj hy
      refine ⟨hib, m.set hib.1 hib.2 rfl rfl fun h24 n24 x24 => ?_⟩
      rw [Int.toNat_natCast, st0] at n24
      refine hgo2 hjR _ _ (w64_up' (n := R.length) hjR (by omega)) ?_
      rw [take_succ' R hjR, List.foldl_append, hv]
      exact n24
    · have e2 : ¬ (j : Int) < ((els[i]'(by omega)).len : Int) := e2
      obtain rfl : j = R.length := by omega
      rw [List.take_length] at hv
      have hvb : 0 ≤ v ∧ v ≤ (i : Int) := by
        rw [← hv]
        exact mx_fold (f := fun k => (L[k.toNat]?).getD 0) (Int.le_refl 0) (Int.natCast_nonneg i) fun k _ => hfb k
      refine ⟨hib, m.arr.at hib.1 hib.2 rfl fun x hx => ?_⟩
      rw [Int.toNat_natCast, at0] at hx
      obtain rfl := Option.some.inj hx
      have w1 : w64 (v + 1) = v + 1 := by rw [w64_of (by omega) (by omega)]
      refine ⟨hib, m.set hib.1 hib.2 rfl rfl fun h28 n28 x28 => ?_⟩
      rw [Int.toNat_natCast, st0, w1] at n28
      refine hgo hiN _ _ (w64_up' (n := N) hiN (by omega)) ?_
      unfold earl
      rw [hE2, hrow]
      show New h6 h28 ki s7 (L ++ [R.foldl (fun n k => mxI n ((L[k.toNat]?).getD 0)) 0 + 1] ++ List.replicate (N - (i + 1)) 0)
      rw [hv, List.append_assoc]
      exact n28
  · have e : ¬ (i : Int) < (N : Int) := e
    obtain rfl : i = N := by omega
    rw [Nat.sub_self, List.replicate_zero, List.append_nil] at n
    exact hQ s7 k (n.base n6.le)
theorem span_spec {N : Nat} {l : Sl} {es : List Eg} {h : Heap} (hN : N ≤ 4096) {c1 : Den kapiDag → Heap → ((Sl × (Int × Unit)) → Heap → Prop) → Prop}
    (i1 : ∀ {Q : (Sl × (Int × Unit)) → Heap → Prop}, (∀ o h', New h h' ki o (earl (rowsE N es) N) → Q (o, (0, ())) h') → c1 ((N : Int), (l, ())) h Q) {Q : Eg → Heap → Prop} (hQ : ∀ h', le h h' → Q ((earl (rowsE N es) N).foldl mxI 0, (0, ())) h') : dag_Span.M c1 ((N : Int), (l, ())) h Q := by
  refine i1 fun o h4 n4 => dcs (fun q => absurd rfl q) (fun _ => ?_)
  have hol := n4.len
  have hll := earl_len (rowsE N es) N
  generalize earl (rowsE N es) N = L at *
  refine Loop.up L.length (fun s => s.2.1) (fun i st k => k = h4 ∧ st.1 = (L.take i).foldl mxI 0) rfl ⟨rfl, rfl⟩ ?_
  rintro i ⟨v, i', u⟩ k go hi hc ⟨rfl, hv⟩ hgo
  dsimp only at hc hv; subst hc; subst hv
  refine dcs (fun e => ?_) (fun e => ?_)
  · have e : (i : Int) < (o.len : Int) := e
    have hil : i < L.length := by omega
    refine ⟨⟨Int.natCast_nonneg i, e⟩, n4.arr.at (Int.natCast_nonneg i) e rfl fun x hx => ?_⟩
    rw [Int.toNat_natCast, List.getElem?_eq_getElem hil] at hx
    obtain rfl := Option.some.inj hx
    refine hgo hil _ _ (w64_up' (n := L.length) hil (by omega)) ⟨rfl, ?_⟩
    rw [take_succ' L hil, List.foldl_append]; rfl
  · have e : ¬ (i : Int) < (o.len : Int) := e
    obtain rfl : i = L.length := by omega
    rw [List.take_length]
    exact hQ _ n4.le
theorem holds_spec {a : Sl} {h : Heap} {xs : List Int} {n : Int} (ha : Arr h ki a xs) (hn : xs.length ≤ 1000000) (hm : n ∈ xs) {Q : Bool → Heap → Prop} (hQ : Q true h) : law22_holds.M a n h Q := by
  have hl := ha.1
  refine Loop.up xs.length (fun s => s.1) (fun i st k => k = h ∧ n ∉ xs.take i) rfl ⟨rfl, fun q => (by cases q)⟩ ?_
  rintro i ⟨i', u⟩ k go hi hc ⟨rfl, hI⟩ hgo
  dsimp only at hc; subst hc
  refine dcs (fun e => ?_) (fun e => ?_)
  · have e : (i : Int) < (a.len : Int) := e
    have hil : i < xs.length := by omega
    refine ⟨⟨Int.natCast_nonneg i, e⟩, ha.at (Int.natCast_nonneg i) e rfl fun x hx => ?_⟩
    rw [Int.toNat_natCast, List.getElem?_eq_getElem hil] at hx
    obtain rfl := Option.some.inj hx
    refine dcs (fun _ => hQ) (fun z => hgo hil _ _ (w64_up' (n := xs.length) hil (by omega)) ⟨rfl, fun q => ?_⟩)
    have z : ¬ xs[i] = n := z
    rw [take_succ' xs hil, List.mem_append] at q
    rcases q with q | q
    · exact hI q
    · exact z (List.mem_singleton.1 q).symm
  · have e : ¬ (i : Int) < (a.len : Int) := e
    rw [List.take_of_length_le (by omega)] at hI
    exact absurd hm hI

theorem same2_spec {h : Heap} {a b : Sl} {xs ys : List Int} (ha : Arr h ki a xs) (hb : Arr h ki b ys) (hn : xs.length ≤ 1000000) {Q : Bool → Heap → Prop} (hQ : Q (decide (xs = ys)) h) : law22_same.M a b h Q := by
  have hal := ha.1
  have hbl := hb.1
  refine dcs (fun e => ?_) (fun e => ?_)
  · have e : (a.len : Int) ≠ (b.len : Int) := e
    have : decide (xs = ys) = false := decide_eq_false fun q => e (by rw [← hal, ← hbl, q])
    rw [this] at hQ; exact hQ
  · have e : ¬ (a.len : Int) ≠ (b.len : Int) := e
    have hlen : xs.length = ys.length := by omega
    refine Loop.up xs.length (fun s => s.1) (fun i st k => k = h ∧ xs.take i = ys.take i) rfl ⟨rfl, rfl⟩ ?_
    rintro i ⟨i', u⟩ k go hi hc ⟨rfl, hI⟩ hgo
    dsimp only at hc; subst hc
    refine dcs (fun e2 => ?_) (fun e2 => ?_)
    · have e2 : (i : Int) < (a.len : Int) := e2
      have hia : i < xs.length := by omega
      have hib : i < ys.length := by omega
      refine ha.two2 hb (Int.natCast_nonneg i) e2 (Int.natCast_nonneg i) (by omega) fun x y hx hy => ?_
      rw [Int.toNat_natCast, List.getElem?_eq_getElem hia] at hx
      rw [Int.toNat_natCast, List.getElem?_eq_getElem hib] at hy
      obtain rfl := Option.some.inj hx
      obtain rfl := Option.some.inj hy
      refine dcs (fun z => ?_) (fun z => ?_)
      · have z : xs[i] ≠ ys[i] := z
        have : decide (xs = ys) = false := decide_eq_false fun q => z (by subst q; rfl)
        rw [this] at hQ; exact hQ
      · have z : xs[i] = ys[i] := Decidable.not_not.1 z
        refine hgo hia _ _ (w64_up' (n := xs.length) hia (by omega)) ⟨rfl, ?_⟩
        rw [take_succ' xs hia, take_succ' ys hib, hI, z]
    · have e2 : ¬ (i : Int) < (a.len : Int) := e2
      obtain rfl : i = xs.length := by omega
      have : decide (xs = ys) = true := decide_eq_true (by
        have h1 : xs.take xs.length = ys.take ys.length := by rw [hI, hlen]
        rwa [List.take_length, List.take_length] at h1)
      rw [this] at hQ; exact hQ
theorem sameLists2_spec {h h1 h2 : Heap} {a b : Sl} {ea eb : List Sl} {xss yss : List (List Int)} (na : Nest h1 h ki a ea xss) (nb : Nest h2 h ki b eb yss) (hl : xss.length ≤ 1048576) (hr : ∀ xs ∈ xss, xs.length ≤ 1000000)
    {c1 : Sl → Sl → Heap → (Bool → Heap → Prop) → Prop} (i1 : ∀ {a b h Q}, law22_same.M a b h Q → c1 a b h Q) {Q : Bool → Heap → Prop} (hQ : Q (decide (xss = yss)) h) : law22_sameLists.M c1 a b h Q := by
  have la := na.out.len
  have lb := nb.out.len
  have la2 := na.len
  have lb2 := nb.len
  refine dcs (fun e => ?_) (fun e => ?_)
  · have e : (a.len : Int) ≠ (b.len : Int) := e
    have : decide (xss = yss) = false := decide_eq_false fun q => e (by subst q; omega)
    rw [this] at hQ; exact hQ
  have e : ¬ (a.len : Int) ≠ (b.len : Int) := e
  have hlen : xss.length = yss.length := by omega
  refine Loop.up xss.length (fun s => s.1) (fun i st k => k = h ∧ xss.take i = yss.take i) rfl ⟨rfl, rfl⟩ ?_
  rintro i ⟨i', u⟩ k go hi hc ⟨rfl, hI⟩ hgo
  dsimp only at hc; subst hc
  refine dcs (fun e => ?_) (fun e => ?_)
  · have e : (i : Int) < (a.len : Int) := e
    have hil : i < xss.length := by omega
    have hil2 : i < yss.length := by omega
    obtain ⟨aa, haa⟩ := na.out.arr.addr (by omega)
    obtain ⟨ab, hab⟩ := nb.out.arr.addr (by omega)
    have xa : ea[i]? = some (ea[i]'(by omega)) := by simp
    have xb : eb[i]? = some (eb[i]'(by omega)) := by simp
    have xx : xss[i]? = some xss[i] := by simp
    have yy : yss[i]? = some yss[i] := by simp
    refine ⟨⟨Int.natCast_nonneg i, e⟩, ?_⟩
    rw [haa]
    simp only [deref]
    refine ⟨⟨Int.natCast_nonneg i, show (i : Int) < (b.len : Int) by omega⟩, ?_⟩
    rw [hab]
    simp only [deref]
    rw [Int.toNat_natCast]
    refine na.out.arr.ldAt (k := .sl) haa xa rfl (nb.out.arr.ldAt (k := .sl) hab xb rfl (i1 (same2_spec (na.row i _ _ xa xx).arr (nb.row i _ _ xb yy).arr (hr _ (List.getElem_mem hil)) ?_)))
    by_cases z : xss[i] = yss[i]
    · rw [decide_eq_true z]
      refine ⟨fun q => (by cases q), fun _ => hgo hil _ _ (w64_up' (n := xss.length) hil (by omega)) ⟨rfl, ?_⟩⟩
      rw [take_succ' xss hil, take_succ' yss hil2, hI, z]
    · rw [decide_eq_false z]
      have : decide (xss = yss) = false := decide_eq_false fun q => z (by subst q; rfl)
      rw [this] at hQ
      exact ⟨fun _ => hQ, fun q => (by cases q)⟩
  · have e : ¬ (i : Int) < (a.len : Int) := e
    obtain rfl : i = xss.length := by omega
    have : decide (xss = yss) = true := decide_eq_true (by
      have h1 : xss.take xss.length = yss.take yss.length := by rw [hI, hlen]
      rwa [List.take_length, List.take_length] at h1)
    rw [this] at hQ; exact hQ

theorem formR_top (S : List (Rc × Nat)) : (formR S).length = 0 ∨ ∃ c ∈ S, c.2 + 1 = (formR S).length := by
  induction S using rev_ind with
  | nil => exact .inl rfl
  | append_singleton S c ih =>
    rw [formR_snoc, addR_len]
    rcases Nat.lt_or_ge (c.2 + 1) (formR S).length with h | h
    · rw [Nat.max_eq_left (by omega)]
      rcases ih with ih | ⟨d, hd, ih⟩
      · omega
      · exact .inr ⟨d, List.mem_append_left _ hd, ih⟩
    · rw [Nat.max_eq_right h]
      exact .inr ⟨c, List.mem_append_right _ (List.mem_singleton.2 rfl), rfl⟩
theorem frm_top {sz len : Int} {xss : List (List Ac)} {p : List Int} : (frm sz len xss p).length = 0 ∨ ∃ c ∈ steps (bdE sz len xss) (evL p), c.2 + 1 = (frm sz len xss p).length := by
  rw [frm_len]
  rcases formR_top (foaS sz len xss p) with h | ⟨d, hd, h⟩
  · exact .inl h
  · unfold foaS at hd
    rw [foaS_ev] at hd
    obtain ⟨c, hc, rfl⟩ := List.mem_map.1 hd
    exact .inr ⟨c, hc, h⟩

/-- The edges, as far as they are: those of the first i, and of the i-th to those ahead of j. -/
def ColP (bd : Ev → Ev → Bool) (es : List Ev) (i j : Nat) (E : List Eg) : Prop :=
  ∀ b, b < es.length → (E.filter fun e => decide (eT e = (b : Int))).map (fun e => eF e) = ((List.range (if b < j then i + 1 else i)).filter fun a => decide (a < b) && bd ((es[a]?).getD (0, 0)) ((es[b]?).getD (0, 0))).map fun a : Nat => (a : Int)
theorem ColP.next {bd : Ev → Ev → Bool} {es : List Ev} {i j : Nat} {E : List Eg} (h : ColP bd es i j E) (hij : i < j) (hj : j < es.length) {b : Bool} (hb : b = bd ((es[i]?).getD (0, 0)) ((es[j]?).getD (0, 0))) : ColP bd es i (j + 1) (if b = true then E ++ [((i : Int), ((j : Int), ()))] else E) := fun c hc => by
  have hE := h c hc
  by_cases d : c = j
  · subst d
    rw [if_neg (Nat.lt_irrefl c)] at hE
    rw [if_pos (Nat.lt_succ_self c), List.range_succ, List.filter_append, List.map_append, ← hE]
    cases hbb : b with
    | true =>
      rw [if_pos rfl, List.filter_append, List.map_append]
      congr 1
      have h1 : decide (eT (((i : Int), ((c : Int), ())) : Eg) = (c : Int)) = true := decide_eq_true rfl
      rw [List.filter_cons_of_pos (p := fun e : Eg => decide (eT e = (c : Int))) h1, List.filter_cons_of_pos (by rw [← hb, hbb, decide_eq_true hij]; rfl)]
      rfl
    | false =>
      rw [if_neg (by decide), List.filter_cons_of_neg (by rw [← hb, hbb]; simp)]
      simp
  · have hne : ∀ {E' : List Eg}, ((E ++ [((i : Int), ((j : Int), ()))]).filter fun e => decide (eT e = (c : Int))) = E.filter fun e => decide (eT e = (c : Int)) := fun {_} => by
      rw [List.filter_append]
      have h1 : ¬ decide (eT (((i : Int), ((j : Int), ())) : Eg) = (c : Int)) = true := by
        rw [decide_eq_true_eq]
        show ¬ ((j : Int) = (c : Int)); omega
      rw [List.filter_cons_of_neg (p := fun e : Eg => decide (eT e = (c : Int))) h1]; simp
    have hif : (if c < j + 1 then i + 1 else i) = if c < j then i + 1 else i := by
      by_cases x : c < j
      · rw [if_pos x, if_pos (by omega)]
      · rw [if_neg x, if_neg (by omega)]
    rw [hif, ← hE]
    cases hbb : b with
    | true => rw [if_pos rfl, hne (E' := E)]
    | false => rw [if_neg (by decide)]
theorem ColP.row {bd : Ev → Ev → Bool} {es : List Ev} {i j : Nat} {E : List Eg} (h : ColP bd es i j E) (hj : es.length ≤ j) : ColP bd es (i + 1) (i + 2) E := fun c hc => by
  rw [h c hc, if_pos (by omega)]
  by_cases d : c < i + 2
  · rw [if_pos d, List.range_succ (n := i + 1), List.filter_append, List.filter_cons_of_neg (by rw [decide_eq_false (by omega)]; simp)]
    simp
  · rw [if_neg d]
theorem ColP.zero (bd : Ev → Ev → Bool) (es : List Ev) : ColP bd es 0 1 [] := fun c hc => by
  by_cases d : c < 1
  · rw [if_pos d]
    have : c = 0 := by omega
    subst this; rfl
  · rw [if_neg d]; rfl
theorem ColP.done {bd : Ev → Ev → Bool} {es : List Ev} {j : Nat} {E : List Eg} (h : ColP bd es es.length j E) {c : Nat} (hc : c < es.length) : (rowsE es.length E)[c]? = some (aheadR bd es c) := by
  rw [rowsE_at hc, h c hc]
  unfold aheadR
  congr 2
  have key : ∀ n, c ≤ n → (List.range n).filter (fun a => decide (a < c) && bd ((es[a]?).getD (0, 0)) ((es[c]?).getD (0, 0))) = (List.range c).filter fun i => bd ((es[i]?).getD (0, 0)) ((es[c]?).getD (0, 0)) := fun n hn => by
    induction n with
    | zero =>
      obtain rfl : c = 0 := by omega
      rfl
    | succ n ih =>
      by_cases d : c = n + 1
      · subst d
        refine List.filter_congr fun a ha => ?_
        rw [decide_eq_true (List.mem_range.1 ha), Bool.true_and]
      · rw [List.range_succ, List.filter_append, ih (by omega), List.filter_cons_of_neg (by rw [decide_eq_false (by omega)]; simp)]
        simp
  exact key _ (by split <;> omega)

theorem exploreForms_spec {s : Sc} {t w : Sl} {h0 : Heap} {bs ps ws : List Int} {xss : List (List Ac)} (r : ScR h0 s bs xss) (hs : Small bs xss) (hp : Arr h0 ki t ps) (hpn : ps.length ≤ 1048576) (hw : Arr h0 ki w ws) (hwn : ws.length ≤ 1048576) {Q : Bool → Heap → Prop} (hQ : ∀ h', le h0 h' → Q true h')
    {c1 : Sc → Heap → (Sc → Heap → Prop) → Prop} {c4 : Sc → Sl → Heap → (Sl → Heap → Prop) → Prop} {c5 : Sc → Sl → Sl → Heap → ((Bool × (Int × Unit)) → Heap → Prop) → Prop}
    {cF : Sc → Sl → Heap → ((Sl × (Int × Unit)) → Heap → Prop) → Prop} {cL : Sl → Sl → Heap → (Bool → Heap → Prop) → Prop} {c7 : Heap → (Bool → Heap → Prop) → Prop} {cr : Sc → Sl → Heap → (Sl → Heap → Prop) → Prop} {cd : Sc → Ac → Ac → Heap → (Bool → Heap → Prop) → Prop}
    {cSp : Den kapiDag → Heap → (Eg → Heap → Prop) → Prop} {cEa : Den kapiDag → Heap → ((Sl × (Int × Unit)) → Heap → Prop) → Prop} {cH : Sl → Int → Heap → (Bool → Heap → Prop) → Prop}
    (i1 : ∀ {Q : Sc → Heap → Prop}, (∀ c bs' xss' h', le h0 h' → ScR h' c bs' xss' → FitP c.1 bs' xss' → Q c h') → c1 s h0 Q)
    (iS : ∀ {t : Sl} {ps : List Int} {s : Sc} {h : Heap} {bs : List Int} {xss : List (List Ac)} {Q : Sl → Heap → Prop}, ps.length ≤ 1048576 → ScR h s bs xss → FitP s.1 bs xss → Arr h ki t ps → (∀ l qs h', New h h' ki l qs → ScriptP (xss.map List.length) qs → Q l h') → c4 s t h Q)
    (iF : ∀ {s : Sc} {t : Sl} {h : Heap} {bs ps : List Int} {xss : List (List Ac)} {Q : (Sl × (Int × Unit)) → Heap → Prop}, ScR h s bs xss → Small bs xss → Arr h ki t ps → ps.length ≤ 1048576 → (∀ o e h', Rdy s.1 bs.length xss ps e → FoR h h' o (foataP s.1 bs.length xss ps e) → Q (o, (e, ())) h') → cF s t h Q)
    (iA : ∀ {s : Sc} {t u : Sl} {h : Heap} {bs ps qs : List Int} {xss : List (List Ac)} {Q : (Bool × (Int × Unit)) → Heap → Prop}, ScR h s bs xss → Small bs xss → (Arr h ki t ps ∧ ps.length ≤ 1048576) → (Arr h ki u qs ∧ qs.length ≤ 1048576) → (∀ b e h', AlR s.1 bs.length xss ps qs b e → le h h' → Q (b, (e, ())) h') → c5 s t u h Q)
    (iL : ∀ {h h1 h2 : Heap} {a b : Sl} {ea eb : List Sl} {xss yss : List (List Int)} {Q : Bool → Heap → Prop}, Nest h1 h ki a ea xss → Nest h2 h ki b eb yss → xss.length ≤ 1048576 → (∀ xs ∈ xss, xs.length ≤ 1000000) → Q (decide (xss = yss)) h → cL a b h Q)
    (iT : ∀ {h : Heap} {Q : Bool → Heap → Prop}, (∀ h', le h h' → Q true h') → c7 h Q)
    (ir : ∀ {s t h Q}, law22_row.M s t h Q → cr s t h Q)
    (iD : ∀ {s : Sc} {x y : Ac} {h : Heap} {Q : Bool → Heap → Prop}, (∀ b : Bool, (b = true ↔ DepI s.1 (s.2.1.len : Int) x.2.1 x.2.2.1 x.2.2.2.1 y.2.1 y.2.2.1 y.2.2.2.1) → Q b h) → cd s x y h Q)
    (iSp : ∀ {N : Nat} {l : Sl} {es : List Eg} {h : Heap} {Q : Eg → Heap → Prop}, Arr h K2 l es → EdgesOk N es → N ≤ 4096 → es.length ≤ 16384 → (∀ h', le h h' → Q ((earl (rowsE N es) N).foldl mxI 0, (0, ())) h') → cSp ((N : Int), (l, ())) h Q)
    (iEa : ∀ {N : Nat} {l : Sl} {es : List Eg} {h : Heap} {Q : (Sl × (Int × Unit)) → Heap → Prop}, Arr h K2 l es → EdgesOk N es → N ≤ 4096 → es.length ≤ 16384 → (∀ o h', New h h' ki o (earl (rowsE N es) N) → Q (o, (0, ())) h') → cEa ((N : Int), (l, ())) h Q)
    (iH : ∀ {a : Sl} {h : Heap} {xs : List Int} {n : Int} {Q : Bool → Heap → Prop}, Arr h ki a xs → xs.length ≤ 1000000 → n ∈ xs → Q true h → cH a n h Q) :
    law22_ExploreForms.M c1 c4 cF c5 cL c7 cr cd cSp cEa cH s t w h0 Q := by
  refine i1 fun c bs xss h1 l1 r1 f => ?_
  have hs := f.small
  have hc := f.ok
  have f0 := f
  obtain ⟨_, _, hz2, hx4, hsum, hbad⟩ := f
  refine iS hpn r1 f0 (hp.le l1) fun sl p h2 n2 hS => ?_
  have l2 := n2.le
  have hp7 : p.length ≤ 7 := by rw [hS.len]; exact hsum
  refine iS hwn (r1.le l2) f0 (hw.le (l1.trans l2)) fun sq q h3 n3 hSq => ?_
  have hq7 : q.length ≤ 7 := by rw [hSq.len]; exact hsum
  have l3 := n3.le
  have p3 := n2.arr.le l3
  have r3 := (r1.le l2).le l3
  have z0 : ∀ {q e}, ScriptP (xss.map List.length) q → Rdy c.1 bs.length xss q e → e = 0 := fun hS hr => (hr.2 hc).1 hS
  refine iF r3 hs p3 (by omega) fun x e h4 hr1 f1 => ?_
  obtain rfl := z0 hS hr1
  obtain ⟨elsX, f1⟩ := f1
  have l4 := f1.le
  refine iF (r3.le l4) hs (n3.arr.le l4) (by omega) fun y e h5 hr2 f2 => ?_
  obtain rfl := z0 hSq hr2
  obtain ⟨elsY, f2⟩ := f2
  have l5 := f2.le
  refine iA ((r3.le l4).le l5) hs ⟨p3.le (l4.trans l5), by omega⟩ ⟨n3.arr.le (l4.trans l5), by omega⟩ fun b e h6 al l6 => ?_
  obtain ⟨e0, hr0, al⟩ := al
  obtain rfl := z0 hS hr0
  rcases al with ⟨z, _⟩ | ⟨_, z, _⟩ | ⟨_, _, rfl, hb⟩
  · exact absurd rfl z
  · exact absurd hSq z
  have sm := foataP_small (len := bs.length) hs.2.1 hs.2.2 hr1
  let x' := frm c.1 bs.length xss p
  have f1 : Nest h3 h4 ki x elsX x' := f1
  have f2 : Nest h4 h5 ki y elsY (frm c.1 bs.length xss q) := f2
  have f16 := f1.more (l5.trans l6)
  have hrowlen : ∀ row ∈ x', row.length ≤ 7 := fun row hrow => by
    have h1 := frm_flat (sz := c.1) (len := bs.length) hS
    have h2 : (frm c.1 bs.length xss p).flatten.length ≤ 7 := by rw [h1.1.len]; exact hsum
    obtain ⟨i, hi⟩ := List.mem_iff_getElem?.1 hrow
    have : row.length ≤ x'.flatten.length := by
      rw [List.length_flatten]
      exact len_le_sum hrow
    exact Nat.le_trans this h2
  have hfl : x'.flatten.length ≤ 7 := by
    have h1 := frm_flat (sz := c.1) (len := bs.length) hS
    rw [h1.1.len]; exact hsum
  refine dcs (fun z => absurd rfl z) (fun _ => dcs (fun z => absurd rfl z) (fun _ => dcs (fun z => absurd rfl z) (fun _ => ?_)))
  refine iL f16 (f2.more l6) sm.1 (fun row hrow => Nat.le_trans (hrowlen row hrow) (by decide)) ?_
  have hform : decide (x' = frm c.1 bs.length xss q) = b := by
    have h1 : x' = frm c.1 bs.length xss q ↔ Alk (bdE c.1 bs.length xss) (evL p) (evL q) := by
      show frm c.1 bs.length xss p = _ ↔ _
      unfold frm foataP
      rw [if_pos rfl, if_pos rfl]
      exact form_alk hS hSq
    cases hbb : b with
    | true => exact decide_eq_true (h1.2 (hb.1 hbb))
    | false =>
      refine decide_eq_false fun z => ?_
      have := hb.2 (h1.1 z)
      rw [hbb] at this; cases this
  rw [hform]
  refine ⟨fun z => (by rw [beq_self_eq_true] at z; cases z), fun _ => iT fun h86 l86 => ⟨fun z => (by cases z), fun _ => ?_⟩⟩
  -- the form, written out
  have f86 := f16.more l86
  have l386 : le h3 h86 := f86.le
  have xl := f86.out.len
  have xl2 := f86.len
  refine Loop.up x'.length (fun s => s.2.1) (fun i st k => New h86 k ki st.1 (x'.take i).flatten) rfl (New.nil h86 ki) ?_
  rintro i ⟨fl, i', u⟩ k go hi hcc nf hgo
  dsimp only at hcc nf; subst hcc
  have hnf := nf.len
  have hfb : (x'.take i).flatten.length ≤ 7 := by
    have h1 : x'.flatten = (x'.take i).flatten ++ (x'.drop i).flatten := by rw [← List.flatten_append, List.take_append_drop]
    have h2 : x'.flatten.length = (x'.take i).flatten.length + (x'.drop i).flatten.length := by rw [← List.length_append, ← h1]
    omega
  refine dcs (fun e => ?_) (fun e => ?_)
  · have e : (i : Int) < (x.len : Int) := e
    have hix : i < x'.length := by omega
    have hie : i < elsX.length := by omega
    have fk := f86.more nf.le
    refine ⟨⟨Int.natCast_nonneg i, e⟩, fk.out.arr.at (Int.natCast_nonneg i) e rfl fun sl' hsl => ?_⟩
    rw [Int.toNat_natCast, List.getElem?_eq_getElem hie] at hsl
    obtain rfl := Option.some.inj hsl
    have hrow := (fk.row i _ _ (List.getElem?_eq_getElem hie) (List.getElem?_eq_getElem hix)).arr
    have hrl := hrow.1
    have hr7 := hrowlen _ (List.getElem_mem hix)
    refine nf.apps hrow rfl rfl (by show (fl.len + (elsX[i]'hie).len) * 8 ≤ _; omega) fun t' h25 n25 => ?_
    refine hgo hix _ _ (w64_up' (n := x'.length) hix (by have := sm.1; show x'.length ≤ _; exact Nat.le_trans this (by decide))) ?_
    rw [take_succ' x' hix, List.flatten_append]
    simpa using n25
  have e : ¬ (i : Int) < (x.len : Int) := e
  obtain rfl : i = x'.length := by omega
  rw [List.take_length] at nf hfb
  clear hgo
  obtain ⟨hSf, haf⟩ := frm_flat (sz := c.1) (len := bs.length) hS
  have lk := nf.le
  have l3k : le h3 k := l386.trans lk
  refine iA (r3.le l3k) hs ⟨p3.le l3k, by omega⟩ ⟨nf.arr, by omega⟩ fun b2 e h27 al l27 => ?_
  obtain ⟨e0, hr0, al⟩ := al
  obtain rfl := z0 hS hr0
  rcases al with ⟨z, _⟩ | ⟨_, z, _⟩ | ⟨_, _, rfl, hb2⟩
  · exact absurd rfl z
  · exact absurd hSf z
  obtain rfl : b2 = true := hb2.2 haf
  refine dcs (fun z => absurd rfl z) (fun _ => ⟨fun z => (by cases z), fun _ => ?_⟩)
  have l327 : le h3 h27 := l3k.trans l27
  -- the dag
  refine ir (row22_spec (r3.le l327) (p3.le l327) (by omega) hx4 hS fun ro h31 n31 => ?_)
  have l331 : le h3 h31 := l327.trans n31.le
  have hrol := n31.len
  rw [actsL_len] at hrol
  have hpl := n2.len
  have hbg := r1.beg
  let bd := bdE c.1 bs.length xss
  let es := evL p
  have hesl : es.length = p.length := evL_len p
  have hes : ∀ {j : Nat}, j < p.length → (es[j]?).getD (0, 0) = ((p[j]?).getD 0, cnt (p.take j) ((p[j]?).getD 0).toNat) := fun {j} hj => by
    show ((evL p)[j]?).getD _ = _
    rw [evL_at hj, List.getElem?_eq_getElem hj]; rfl
  refine Loop.up p.length (fun s => s.1) (fun i st k => ∃ o E, st.2.1 = ((p.length : Int), (o, ())) ∧ New h31 k K2 o E ∧ E.length ≤ i * 7 ∧ EdgesOk p.length E ∧ ColP bd es i (i + 1) E) rfl
    ⟨⟨none, 0, 0⟩, [], by show ((sl.len : Int), _) = _; rw [← hpl]; rfl, New.nil h31 K2, Nat.zero_le _, fun e he => (by cases he), ColP.zero bd es⟩ ?_
  rintro i ⟨i', dg, u⟩ k2 go hi hcc ⟨o, E, hdg, no, hEl, hEo, hcol⟩ hgo
  dsimp only at hcc hdg; subst hcc; subst hdg
  refine dcs (fun e => ?_) (fun e => ?_)
  · have e : (i : Int) < (sl.len : Int) := e
    have hip : i < p.length := by omega
    have wi := w64_up' (n := p.length) hip (by omega)
    refine Loop.up (p.length - (i + 1)) (fun s => s.1 - ((i + 1 : Nat) : Int)) (fun m st k => ∃ o E, st.2.1 = ((p.length : Int), (o, ())) ∧ New h31 k K2 o E ∧ E.length ≤ i * 7 + m ∧ EdgesOk p.length E ∧ ColP bd es i (i + 1 + m) E) (by show w64 ((i : Int) + 1) - _ = 0; rw [wi]; omega)
      ⟨o, E, rfl, no, by omega, hEo, hcol⟩ ?_
    rintro m ⟨(j' : Int), dg, u2⟩ k3 go2 hm hcc ⟨o, E, hdg, no, hEl, hEo, hcol⟩ hgo2
    dsimp only at hcc hdg; subst hdg
    obtain ⟨j, hjm⟩ : ∃ j : Nat, j = i + 1 + m := ⟨_, rfl⟩
    obtain rfl : j' = (j : Int) := by omega
    rw [← hjm] at hcol
    have p3k := p3.le (l331.trans no.le)
    have n31k := n31.more no.le
    refine dcs (fun e2 => ?_) (fun e2 => ?_)
    · have e2 : (j : Int) < (sl.len : Int) := e2
      have hjp : j < p.length := by omega
      have hij : i < j := by omega
      -- with an edge or without
      have fin : ∀ {bb : Bool}, bb = bd ((es[i]?).getD (0, 0)) ((es[j]?).getD (0, 0)) → law22_ExploreForms.j2 ((i : Int), (((p.length : Int), (o, ())), u)) go2 ((j : Int), (((p.length : Int), (o, ())), u2)) (bb, ()) k3 := fun {bb} hbb => by
        have hnx := hcol.next hij (by omega) hbb
        have hgo3 : ∀ {o' E' k'}, New h31 k' K2 o' E' → E'.length ≤ i * 7 + (m + 1) → EdgesOk p.length E' → ColP bd es i (i + 1 + (m + 1)) E' → go2 (w64 ((j : Int) + 1), (((p.length : Int), (o', ())), ())) k' := fun {o' E' k'} a b' c' d' => by
          refine hgo2 (by omega) _ _ ?_ ⟨o', E', rfl, a, b', c', d'⟩
          show w64 ((j : Int) + 1) - _ = _
          rw [w64_of (by omega) (by omega)]; omega
        cases bb with
        | true =>
          rw [if_pos rfl] at hnx
          have hol := no.len
          refine ⟨fun _ => no.app rfl rfl (by show (o.len + 1) * 16 ≤ _; omega) fun o' h45 n45 => ?_, fun z => (by cases z)⟩
          refine hgo3 n45 (by rw [List.length_append, List.length_singleton]; omega) (fun ed hed => ?_) (by rw [show i + 1 + (m + 1) = j + 1 from by omega]; exact hnx)
          rcases List.mem_append.1 hed with hed | hed
          · exact hEo ed hed
          · rw [List.mem_singleton.1 hed]
            show (0 : Int) ≤ (i : Int) ∧ (i : Int) < (j : Int) ∧ (j : Int) < (p.length : Int)
            omega
        | false =>
          rw [if_neg (by decide)] at hnx
          exact ⟨fun z => (by cases z), fun _ => hgo3 no (by omega) hEo (by rw [show i + 1 + (m + 1) = j + 1 from by omega]; exact hnx)⟩
      refine p3k.twoK (Int.natCast_nonneg i) e (Int.natCast_nonneg j) e2 rfl fun xi xj hxi hxj => ?_
      rw [Int.toNat_natCast] at hxi hxj
      have hei := hes hip
      have hej := hes hjp
      rw [hxi] at hei
      rw [hxj] at hej
      refine dcs (fun z => ?_) (fun z => ?_)
      · have z : xi = xj := z
        refine fin ?_
        rw [hei, hej]
        show true = bdE _ _ _ _ _
        unfold bdE bdA
        exact (decide_eq_true (.inl z)).symm
      · have z : ¬ xi = xj := z
        refine n31k.arr.twoK (Int.natCast_nonneg i) (by omega) (Int.natCast_nonneg j) (by omega) rfl fun ax ay hax hay => ?_
        rw [Int.toNat_natCast, actsL_at hip] at hax
        rw [Int.toNat_natCast, actsL_at hjp] at hay
        obtain rfl := Option.some.inj hax
        obtain rfl := Option.some.inj hay
        refine iD fun bb hbb => fin ?_
        have hiff : bb = true ↔ bd ((es[i]?).getD (0, 0)) ((es[j]?).getD (0, 0)) = true := by
          rw [hbb, hei, hej]
          show _ ↔ bdE _ _ _ _ _ = true
          unfold bdE bdA
          rw [decide_eq_true_eq]
          have hxi' : rowE xss p i = gE xss (xi, cnt (p.take i) xi.toNat) := by unfold rowE gE; rw [hxi]; rfl
          have hxj' : rowE xss p j = gE xss (xj, cnt (p.take j) xj.toNat) := by unfold rowE gE; rw [hxj]; rfl
          dsimp only [Option.getD]
          rw [hxi', hxj']
          have hbg' : (((c.1, (c.2.1, (c.2.2.1, ()))) : Sc).2.1.len : Int) = (bs.length : Int) := hbg
          rw [hbg']
          exact ⟨fun z => .inr z, fun y => y.elim (fun y => absurd y z) id⟩
        exact Bool.eq_iff_iff.2 hiff
    · have e2 : ¬ (j : Int) < (sl.len : Int) := e2
      have hj : p.length ≤ j := by omega
      exact hgo hip _ _ wi ⟨o, E, rfl, no, by omega, hEo, hcol.row (by omega)⟩
  · have e : ¬ (i : Int) < (sl.len : Int) := e
    obtain rfl : i = p.length := by omega
    rw [← hesl] at hcol
    have hrows : ∀ j, j < es.length → (rowsE p.length E)[j]? = some (aheadR bd es j) := fun j hj => by rw [← hesl]; exact hcol.done hj
    have hT := earl_steps bd es hrows es.length (Nat.le_refl _)
    rw [List.take_of_length_le (by rw [steps_len]; exact Nat.le_refl _), hesl] at hT
    have hSL : (steps bd es).length = p.length := by rw [steps_len, hesl]
    have hspan : (earl (rowsE p.length E) p.length).foldl mxI 0 = (x'.length : Int) := by
      rw [hT]
      exact earl_span (fun d hd => frm_lt hd) frm_top
    have le31 : le h3 k2 := l331.trans no.le
    refine iSp no.arr hEo (by omega) (by omega) fun h57 l57 => iEa (no.arr.le l57) hEo (by omega) (by omega) fun tm h59 n59 => ?_
    rw [hspan]
    have tml := n59.len
    rw [earl_len] at tml
    refine dcs (fun z => absurd rfl z) (fun _ => dcs (fun z => absurd rfl z) (fun _ => dcs (fun z => absurd (show (x'.length : Int) = (x.len : Int) by omega) z) (fun _ => ⟨fun z => absurd (show (tm.len : Int) = (sl.len : Int) by omega) (of_decide_eq_true z), fun _ => ?_⟩)))
    have l359 : le h3 h59 := (le31.trans l57).trans n59.le
    have f59 := f86.more (((((lk.trans l27).trans n31.le).trans no.le).trans l57).trans n59.le)
    have p59 := p3.le l359
    refine Loop.up p.length (fun s => s.1) (fun i st k => k = h59) rfl rfl ?_
    rintro j ⟨j', u3⟩ k5 go5 hj hc5 rfl hgo5
    dsimp only at hc5; subst hc5
    refine dcs (fun e5 => ?_) (fun e5 => ?_)
    · have e5 : (j : Int) < (sl.len : Int) := e5
      have hjp : j < p.length := by omega
      have hjs : j < (steps bd es).length := by omega
      refine ⟨⟨Int.natCast_nonneg j, show (j : Int) < (tm.len : Int) by omega⟩, n59.arr.at (Int.natCast_nonneg j) (show (j : Int) < (tm.len : Int) by omega) rfl fun tv htv => ?_⟩
      rw [Int.toNat_natCast, hT, List.getElem?_map, List.getElem?_eq_getElem hjs] at htv
      obtain rfl := Option.some.inj htv
      have hlt : ((steps bd es)[j]).2 < x'.length := frm_lt (List.getElem_mem hjs)
      have hx7 : x'.length ≤ 1048576 := sm.1
      have w1 : w64 ((((steps bd es)[j]).2 + 1 : Nat) - 1 : Int) = (((steps bd es)[j]).2 : Int) := by rw [w64_of (by omega) (by omega)]; omega
      rw [w1]
      refine dcs (fun z => absurd (show (((steps bd es)[j]).2 : Int) < 0 from z) (by omega)) (fun _ => dcs (fun z => absurd (show (x.len : Int) ≤ (((steps bd es)[j]).2 : Int) from z) (by omega)) (fun _ => ?_))
      have hre : elsX[((steps bd es)[j]).2]? = some (elsX[((steps bd es)[j]).2]'(by omega)) := List.getElem?_eq_getElem (by omega)
      have hrw := frm_row (sz := c.1) (len := bs.length) hS hlt
      have hmem : p[j] ∈ (lvlW (steps bd es) xss.length ((steps bd es)[j]).2).map (·.1) := by
        have h1 : ((steps bd es)[j]).1 = (p[j], cnt (p.take j) p[j].toNat) := by
          have h2 : ((steps bd es).map (·.1))[j]? = es[j]? := by rw [steps_fst]
          rw [List.getElem?_map, List.getElem?_eq_getElem hjs] at h2
          have h3 : es[j]? = some (p[j], cnt (p.take j) p[j].toNat) := evL_at hjp
          rw [h3] at h2
          exact Option.some.inj h2
        have h4 : (((steps bd es)[j]).1, ((steps bd es)[j]).2) ∈ steps bd es := List.getElem_mem hjs
        have h5 := lvlW_mem (nA := xss.length) h4 (script_who hS _ (steps_mem bd h4)).2
        exact List.mem_map.2 ⟨_, h5, by rw [h1]⟩
      have xa : ∀ {K : Sl → Int → Prop}, K (elsX[((steps bd es)[j]).2]'(by omega)) p[j] → (0 ≤ (((steps bd es)[j]).2 : Int) ∧ (((steps bd es)[j]).2 : Int) < (x.len : Int)) ∧ deref x.a fun a71 => (0 ≤ (j : Int) ∧ (j : Int) < (sl.len : Int)) ∧ deref sl.a fun a72 =>
          ld (.sl : Kd) k5 (a71.add (((((steps bd es)[j]).2 : Int)).toNat * 1)) fun t73 => ld ki k5 (a72.add (((j : Int)).toNat * 1)) fun t74 => K t73 t74 := fun {K} hK => by
        refine ⟨by omega, ?_⟩
        obtain ⟨aa, haa⟩ := f59.out.arr.addr (by omega)
        obtain ⟨ab, hab⟩ := p59.addr (by omega)
        rw [haa]
        simp only [deref]
        refine ⟨⟨Int.natCast_nonneg j, e5⟩, ?_⟩
        rw [hab]
        simp only [deref]
        rw [Int.toNat_natCast, Int.toNat_natCast]
        exact f59.out.arr.ldAt (k := .sl) haa hre rfl (p59.ldAt (k := ki) hab (List.getElem?_eq_getElem hjp) rfl hK)
      refine xa (iH (f59.row _ _ _ hre hrw).arr (by
        have := hrowlen _ (List.mem_of_getElem? hrw)
        omega) hmem ⟨fun z => (by cases z), fun _ => ?_⟩)
      exact hgo5 hjp _ _ (w64_up' (n := p.length) hjp (by omega)) rfl
    · exact hQ _ (((l1.trans l2).trans l3).trans l359)
end Go.Mx
