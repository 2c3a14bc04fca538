/-
  ExploreRun: the error of a scene and a script; an act.
-/
import Derived.Test.YtanfmmcpjifgiabMxFa
set_option linter.unusedVariables false
set_option linter.unusedSimpArgs false
namespace Go.Mx

theorem contains_spec {s : Sl} {h : Heap} {ls : List Int} (ha : Arr h ki s ls) (hn : ls.length ≤ 1048576) {f : Value} {cf : Value → Int → Heap → (Bool → Heap → Prop) → Prop} (i0 : ∀ {n : Int} {h : Heap} {Q : Bool → Heap → Prop}, Q (decide (0 < n)) h → cf f n h Q)
    {c1 : Sl → Value → Heap → (Int → Heap → Prop) → Prop} (i1 : ∀ {Q}, slices_IndexFunc_int_int.M cf s f h Q → c1 s f h Q) {Q : Bool → Heap → Prop} (hQ : ∀ b : Bool, (b = true ↔ ∃ x ∈ ls, 0 < x) → Q b h) : slices_ContainsFunc_int_int.M c1 s f h Q :=
  i1 (index_spec ha hn i0 (fun hx r hr => hQ _ ⟨fun _ => hx, fun _ => decide_eq_true hr⟩) fun hx => hQ _ ⟨fun d => (by simp at d), fun q => absurd q hx⟩)

/-- The error that a scene and a script have. -/
def Rdy (sz : Int) (nb : Nat) (xss : List (List Ac)) (ps : List Int) (r : Int) : Prop :=
  (chkE sz nb xss ≠ 0 → r = chkE sz nb xss) ∧ (chkE sz nb xss = 0 → (ScriptP (xss.map List.length) ps → r = 0) ∧ (¬ ScriptP (xss.map List.length) ps → r = 220))
theorem Rdy.one {sz : Int} {nb : Nat} {xss : List (List Ac)} {ps : List Int} {r r' : Int} (a : Rdy sz nb xss ps r) (b : Rdy sz nb xss ps r') : r = r' := by
  by_cases c : chkE sz nb xss = 0
  · by_cases d : ScriptP (xss.map List.length) ps
    · rw [(a.2 c).1 d, (b.2 c).1 d]
    · rw [(a.2 c).2 d, (b.2 c).2 d]
  · rw [a.1 c, b.1 c]
theorem Rdy.ok {sz : Int} {nb : Nat} {xss : List (List Ac)} {ps : List Int} (a : Rdy sz nb xss ps 0) : chkE sz nb xss = 0 ∧ ScriptP (xss.map List.length) ps := by
  by_cases c : chkE sz nb xss = 0
  · refine ⟨c, Classical.byContradiction fun d => ?_⟩
    have := (a.2 c).2 d
    cases this
  · exact absurd (a.1 c).symm c

theorem ready_spec {s : Sc} {t : Sl} {h : Heap} {bs ps : List Int} {xss : List (List Ac)} (r : ScR h s bs xss) (hs : Small bs xss) (hp : Arr h ki t ps) (hn : ps.length ≤ 1048576)
    {c1 : Sc → Heap → (Int → Heap → Prop) → Prop} {c2 : Sc → Sl → Heap → (Bool → Heap → Prop) → Prop} (i1 : ∀ {Q}, Q (chkE s.1 bs.length xss) h → c1 s h Q)
    (i2 : ∀ {Q : Bool → Heap → Prop}, (∀ b h', (b = true ↔ ScriptP (xss.map List.length) ps) → le h h' → Q b h') → c2 s t h Q) {Q : Int → Heap → Prop} (hQ : ∀ e h', Rdy s.1 bs.length xss ps e → le h h' → Q e h') : explore_ready.M c1 c2 s t h Q := by
  refine i1 ⟨fun d => ?_, fun d => i2 fun b h' hb l => ⟨fun q => ?_, fun q => ?_⟩⟩
  · have d : chkE s.1 bs.length xss ≠ 0 := of_decide_eq_true d
    exact hQ _ h ⟨fun _ => rfl, fun c => absurd c d⟩ (.refl h)
  · have d : ¬ chkE s.1 bs.length xss ≠ 0 := of_decide_eq_false d
    have q : ¬ ScriptP (xss.map List.length) ps := fun g => by rw [hb.2 g] at q; cases q
    exact hQ _ h' ⟨fun c => absurd c d, fun _ => ⟨fun g => absurd g q, fun _ => rfl⟩⟩ l
  · have d : ¬ chkE s.1 bs.length xss ≠ 0 := of_decide_eq_false d
    have q : ScriptP (xss.map List.length) ps := hb.1 (by simpa using q)
    exact hQ _ h' ⟨fun c => absurd c d, fun _ => ⟨fun _ => rfl, fun g => absurd q g⟩⟩ l

/-! ### the reference's Script -/
theorem cnt_cons (p : Int) (ps : List Int) (i : Nat) : cnt (p :: ps) i = (if p = (i : Int) then 1 else 0) + cnt ps i := by
  rw [show p :: ps = [p] ++ ps from rfl, cnt_app, cnt_one]
theorem sum_map_add {α : Type} (f g : α → Nat) (l : List α) : (l.map fun i => f i + g i).sum = (l.map f).sum + (l.map g).sum := by
  induction l with
  | nil => rfl
  | cons a l ih => simp only [List.map_cons, List.sum_cons, ih]; omega
theorem sum_delta (p : Int) : ∀ (n : Nat), 0 ≤ p → p < (n : Int) → ((List.range n).map fun i => if p = ((i : Nat) : Int) then 1 else 0).sum = 1
  | 0, h1, h2 => by omega
  | n + 1, h1, h2 => by
    rw [List.range_succ, List.map_append, List.sum_append]
    by_cases c : p = (n : Int)
    · subst c
      have : ((List.range n).map fun i => if (n : Int) = ((i : Nat) : Int) then 1 else 0) = (List.range n).map fun _ => 0 := List.map_congr_left fun i hi => if_neg (by have := List.mem_range.1 hi; omega)
      rw [this]
      have z : ∀ l : List Nat, (l.map fun _ => 0).sum = 0 := fun l => by induction l with
        | nil => rfl
        | cons a l ih => simpa using ih
      rw [z]
      simp
    · rw [sum_delta p n h1 (by omega)]
      simp [c]
theorem cnt_sum (n : Nat) : ∀ (ps : List Int), InR n ps → ((List.range n).map (cnt ps)).sum = ps.length
  | [], _ => by
    have z : ∀ l : List Nat, (l.map (cnt [])).sum = 0 := fun l => by induction l with
      | nil => rfl
      | cons a l ih => rw [List.map_cons, List.sum_cons, ih]; rfl
    exact z _
  | p :: ps, h => by
    have e : cnt (p :: ps) = fun i => (if p = ((i : Nat) : Int) then 1 else 0) + cnt ps i := funext fun i => cnt_cons p ps i
    rw [e, sum_map_add, cnt_sum n ps (fun q hq => h q (by simp [hq])), sum_delta p n (h p (by simp)).1 (h p (by simp)).2, List.length_cons]; omega
theorem ScriptP.len {lens : List Nat} {ps : List Int} (h : ScriptP lens ps) : ps.length = lens.sum := by
  rw [← cnt_sum lens.length ps h.1]
  congr 1
  apply List.ext_getElem?
  intro i
  rw [List.getElem?_map]
  by_cases c : i < lens.length
  · rw [List.getElem?_range c, List.getElem?_eq_getElem c]
    show some _ = some _
    rw [h.2 i lens[i] (by simp)]
  · rw [List.getElem?_eq_none (by simp; omega), List.getElem?_eq_none (by omega)]; rfl
theorem actsE_sum {xss : List (List Ac)} (h1 : xss.length ≤ 1048576) (h2 : ∀ xs ∈ xss, xs.length ≤ 1048576) : actsE xss = (((xss.map List.length).sum : Nat) : Int) := by
  have key : ∀ (l : List (List Ac)) (n : Nat), n + 1048576 * l.length ≤ 1099511627776 → (∀ xs ∈ l, xs.length ≤ 1048576) → l.foldl (fun n l => w64 (n + (l.length : Int))) (n : Int) = ((n + (l.map List.length).sum : Nat) : Int) := by
    intro l
    induction l with
    | nil => intro n _ _; simp
    | cons a l ih =>
      intro n hn hl
      rw [List.length_cons] at hn
      have ha := hl a (by simp)
      rw [List.foldl_cons, show w64 ((n : Int) + (a.length : Int)) = ((n + a.length : Nat) : Int) from by rw [w64_of] <;> omega, ih (n + a.length) (by omega) fun xs hx => hl xs (by simp [hx]), List.map_cons, List.sum_cons]
      congr 1; omega
  have := key xss 0 (by omega) h2
  rw [Nat.zero_add] at this
  exact this

theorem chkE_ok {sz : Int} {nb : Nat} {xss : List (List Ac)} (h : chkE sz nb xss = 0) : 0 ≤ sz ∧ sz ≤ 64 ∧ (nb : Int) ≤ sz ∧ xss.length ≤ 4 ∧ actsE xss ≤ 10 ∧ badsE xss = false := by
  unfold chkE at h
  split at h
  · cases h
  split at h
  · cases h
  split at h
  · cases h
  refine ⟨by omega, by omega, by omega, by omega, by omega, ?_⟩
  cases e : badsE xss <;> simp_all

theorem aget_set {n : Nat} {a : Fin n → Int} {i j : Nat} {v : Int} (hj : j < n) : aget (n := n) (a := ki) (aset (n := n) (a := ki) a i v) j = if j = i then v else aget (n := n) (a := ki) a j := by
  unfold aget aset
  rw [dif_pos hj, dif_pos hj]
  try rfl

theorem rscript_spec {s : Sc} {t : Sl} {h : Heap} {bs ps : List Int} {xss : List (List Ac)} (r : ScR h s bs xss) (hs : Small bs xss) (hc : chkE s.1 bs.length xss = 0) (hp : Arr h ki t ps) (hn : ps.length ≤ 1048576)
    {c1 : Sc → Heap → (Int → Heap → Prop) → Prop} (i1 : ∀ {Q}, Q (actsE xss) h → c1 s h Q)
    {Q : Bool → Heap → Prop} (hQ : ∀ b, (b = true ↔ ScriptP (xss.map List.length) ps) → Q b h) : ref22_Script.M c1 s t h Q := by
  obtain ⟨size, bg, lsl, u0⟩ := s
  obtain ⟨r1, sls, r2, r3, r4⟩ := r
  dsimp only at r1 r2
  have hsl : lsl.len = xss.length := by rw [← r3, r2.1]
  have hpl := hp.1
  obtain ⟨_, _, _, hx4, ha, _⟩ := chkE_ok hc
  have ha : actsE xss ≤ 10 := ha
  have hsum := actsE_sum hs.2.1 hs.2.2
  generalize hlens : xss.map List.length = lens at hQ hsum
  have hln : lens.length = xss.length := by rw [← hlens]; simp
  refine i1 ⟨fun d => ?_, fun d => ?_⟩
  · have d : (t.len : Int) ≠ actsE xss := of_decide_eq_true d
    exact hQ false ⟨fun e => (by cases e), fun q => by have := q.len; omega⟩
  have d : ¬ (t.len : Int) ≠ actsE xss := of_decide_eq_false d
  refine Loop.up ps.length (fun s => s.1) (fun j st k => k = h ∧ InR lens.length (ps.take j) ∧ ∀ i < 4, aget (n := 4) (a := ki) st.2.1.1 i = (cnt (ps.take j) i : Int)) rfl ⟨rfl, fun p hp => by simp at hp, fun i hi => by unfold aget; rw [dif_pos hi]; simp [cnt]⟩ ?_
  rintro j ⟨j', ⟨a, ua⟩, u⟩ k go hj hcc ⟨rfl, hin, hI⟩ hgo
  dsimp only at hcc hI; subst hcc
  refine ⟨fun e => ?_, fun e => ?_⟩
  · have e : (j : Int) < (t.len : Int) := of_decide_eq_true e
    have hjt : j < ps.length := by omega
    refine ⟨⟨by omega, e⟩, hp.at (by omega) e rfl fun p hp' => ?_⟩
    obtain rfl : ps[j] = p := by simpa [hjt] using hp'
    have bad : ¬ ScriptP lens ps → ref22_Script.j3 Q go ((j : Int), (a, ua), u) ps[j] (true, ()) k := fun hb => ⟨fun _ => hQ false ⟨fun e => (by cases e), fun q => absurd q hb⟩, fun e => (by cases e)⟩
    have hcase : ∀ b : Bool, b = decide ((lsl.len : Int) ≤ ps[j]) → 0 ≤ ps[j] → ref22_Script.j3 Q go ((j : Int), (a, ua), u) ps[j] (b, ()) k := by
      rintro b rfl h0
      refine ⟨fun f => (bad fun q => ?_).1 rfl, fun f => ?_⟩
      · have f : (lsl.len : Int) ≤ ps[j] := of_decide_eq_true f
        have := q.1 ps[j] (by simp)
        omega
      · have f : ¬ (lsl.len : Int) ≤ ps[j] := of_decide_eq_false f
        obtain ⟨i, hi⟩ : ∃ i : Nat, ps[j] = (i : Int) := ⟨ps[j].toNat, by omega⟩
        have hi4 : i < 4 := by omega
        rw [hi]
        refine ⟨⟨by omega, by omega⟩, ⟨by omega, by omega⟩, ?_⟩
        refine hgo hjt _ _ (w64_up' (n := ps.length) hjt (by omega)) ⟨rfl, fun p hp => ?_, fun i' hi' => ?_⟩
        · rw [take_succ' ps hjt] at hp
          rcases List.mem_append.1 hp with hp | hp
          · exact hin p hp
          · obtain rfl : p = ps[j] := by simpa using hp
            omega
        · dsimp only
          rw [Int.toNat_natCast, aget_set hi', hI i hi4, take_succ' ps hjt, cnt_app, cnt_one]
          have hcl : cnt (ps.take j) i ≤ ps.length := by
            have := List.length_filter_le (fun p => decide (p = (i : Int))) (ps.take j)
            have h2 := List.length_take_le j ps
            unfold cnt
            omega
          by_cases c : i' = i
          · subst c
            rw [if_pos rfl, if_pos hi]
            show w64 ((cnt (ps.take j) i' : Int) + 1) = ((cnt (ps.take j) i' + 1 : Nat) : Int)
            rw [w64_of] <;> omega
          · rw [if_neg c, if_neg (by omega), hI i' hi']
            rfl
    refine ⟨fun g => bad fun q => ?_, fun g => hcase _ rfl ?_⟩
    · have g : ps[j] < 0 := of_decide_eq_true g
      have := q.1 ps[j] (by simp)
      omega
    · have g : ¬ ps[j] < 0 := of_decide_eq_false g
      omega
  · have e : ¬ (j : Int) < (t.len : Int) := of_decide_eq_false e
    rw [List.take_of_length_le (by omega)] at hin hI
    clear hgo e hj
    refine Loop.up lsl.len (fun s => s.1) (fun i s k' => k' = k ∧ ∀ i' m, i' < i → lens[i']? = some m → cnt ps i' = m) rfl ⟨rfl, fun i' m h => absurd h (Nat.not_lt_zero _)⟩ ?_
    rintro i ⟨i'', u2⟩ k2 go2 hi hcc ⟨rfl, hJ⟩ hgo2
    dsimp only at hcc; subst hcc
    refine ⟨fun f => ?_, fun f => ?_⟩
    · have f : (i : Int) < (lsl.len : Int) := of_decide_eq_true f
      have hil : i < xss.length := by omega
      refine ⟨⟨by omega, by omega⟩, ⟨by omega, f⟩, r2.at (by omega) f rfl fun x hx => ?_⟩
      rw [Int.toNat_natCast] at hx
      have hxl := (r4 i x xss[i] hx (by simp)).1
      have hli : lens[i]? = some xss[i].length := by rw [← hlens, List.getElem?_map, List.getElem?_eq_getElem hil]; rfl
      have hcell : aget (n := 4) (a := ki) a ((i : Int)).toNat = (cnt ps i : Int) := by rw [Int.toNat_natCast, hI i (by omega)]
      refine ⟨fun g => ?_, fun g => ?_⟩
      · have g : aget (n := 4) (a := ki) a ((i : Int)).toNat ≠ (x.len : Int) := of_decide_eq_true g
        rw [hcell] at g
        exact hQ false ⟨fun e => (by cases e), fun q => absurd (by rw [q.2 i _ hli, hxl]) g⟩
      · have g : ¬ aget (n := 4) (a := ki) a ((i : Int)).toNat ≠ (x.len : Int) := of_decide_eq_false g
        rw [hcell] at g
        refine hgo2 (by omega) _ _ (w64_up' (n := xss.length) hil (by omega)) ⟨rfl, fun i' m h1 h2 => ?_⟩
        by_cases c : i' = i
        · subst c
          rw [hli] at h2; cases h2
          have g : ¬ ((cnt ps i' : Nat) : Int) ≠ (x.len : Int) := g
          omega
        · exact hJ i' m (by omega) h2
    · have f : ¬ (i : Int) < (lsl.len : Int) := of_decide_eq_false f
      refine hQ true ⟨fun _ => ⟨hin, fun i' m h2 => hJ i' m ?_ h2⟩, fun _ => rfl⟩
      have := (List.getElem?_eq_some_iff.1 h2).1
      omega

theorem bad_spec {s : Sc} {t : Sl} {h : Heap} {bs ps : List Int} {xss : List (List Ac)}
    {c1 : Sc → Heap → (Int → Heap → Prop) → Prop} {c2 : Sc → Sl → Heap → (Bool → Heap → Prop) → Prop} (i1 : ∀ {Q}, Q (chkE s.1 bs.length xss) h → c1 s h Q)
    (i2 : ∀ {Q : Bool → Heap → Prop}, chkE s.1 bs.length xss = 0 → (∀ b, (b = true ↔ ScriptP (xss.map List.length) ps) → Q b h) → c2 s t h Q) {Q : Int → Heap → Prop} (hQ : ∀ e, Rdy s.1 bs.length xss ps e → Q e h) : ref22_Bad.M c1 c2 s t h Q := by
  refine i1 ⟨fun d => ?_, fun d => ⟨fun e => (by cases e), fun _ => ?_⟩⟩
  · have d : chkE s.1 bs.length xss = 0 := of_decide_eq_true d
    refine i2 d fun b hb => ⟨fun q => ?_, fun q => ?_⟩
    · have q : ¬ ScriptP (xss.map List.length) ps := fun g => by rw [hb.2 g] at q; cases q
      exact hQ _ ⟨fun c => absurd d c, fun _ => ⟨fun g => absurd g q, fun _ => rfl⟩⟩
    · have q : ScriptP (xss.map List.length) ps := hb.1 (by simpa using q)
      exact hQ _ ⟨fun c => rfl, fun _ => ⟨fun _ => d, fun g => absurd q g⟩⟩
  · have d : ¬ chkE s.1 bs.length xss = 0 := of_decide_eq_false d
    exact hQ _ ⟨fun _ => rfl, fun c => absurd c d⟩

end Go.Mx
