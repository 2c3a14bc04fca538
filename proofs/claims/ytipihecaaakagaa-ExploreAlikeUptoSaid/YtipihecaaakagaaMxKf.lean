/-
  The normal form: the reference's; the two are the same.
-/
import Derived.Test.YtipihecaaakagaaMxKe
set_option linter.unusedVariables false
set_option linter.unusedSimpArgs false
set_option linter.unusedSectionVars false
namespace Go.Mx

/-- Who is at a step, as the acts stand. -/
def rawR (S : List (Rc × Nat)) (n : Nat) : List Int := (S.filter fun c => decide (c.2 = n)).map fun c => c.1.1
def refRow (S : List (Rc × Nat)) (nA n : Nat) : List Int := (List.range nA).flatMap fun w : Nat => (rawR S n).filter fun x => decide (x = (w : Int))
theorem count_flat (L : List Int) (a : Int) : ∀ n : Nat, ((List.range n).flatMap fun w : Nat => L.filter fun x => decide (x = (w : Int))).count a = if 0 ≤ a ∧ a < (n : Int) then L.count a else 0
  | 0 => by
    rw [if_neg (by omega)]; rfl
  | n + 1 => by
    rw [List.range_succ, List.flatMap_append, List.count_append, count_flat L a n]
    have e : ([n].flatMap fun w : Nat => L.filter fun x => decide (x = (w : Int))) = L.filter fun x => decide (x = (n : Int)) := by simp
    rw [e]
    by_cases z : a = (n : Int)
    · subst z
      rw [if_neg (by omega), if_pos (by omega), Nat.zero_add, List.count_filter (by simp)]
    · have h0 : (L.filter fun x => decide (x = (n : Int))).count a = 0 := by
        rw [List.count_eq_zero]
        intro h
        exact z (of_decide_eq_true (List.mem_filter.1 h).2)
      rw [h0, Nat.add_zero]
      by_cases y : 0 ≤ a ∧ a < (n : Int)
      · rw [if_pos y, if_pos (by omega)]
      · rw [if_neg y, if_neg (by omega)]
theorem refRow_perm {S : List (Rc × Nat)} {nA : Nat} (h : ∀ c ∈ S, 0 ≤ c.1.1 ∧ c.1.1 < (nA : Int)) (n : Nat) : (refRow S nA n).Perm (rawR S n) := by
  rw [List.perm_iff_count]
  intro a
  unfold refRow
  rw [count_flat]
  by_cases z : 0 ≤ a ∧ a < (nA : Int)
  · rw [if_pos z]
  · rw [if_neg z]
    symm
    rw [List.count_eq_zero]
    intro hm
    obtain ⟨c, hc, rfl⟩ := List.mem_map.1 hm
    exact z (h c (List.mem_filter.1 hc).1)
theorem refRow_sort (S : List (Rc × Nat)) (nA n : Nat) : (refRow S nA n).Pairwise (· ≤ ·) := by
  unfold refRow
  rw [List.pairwise_flatMap]
  refine ⟨fun w _ => ?_, List.pairwise_lt_range.imp fun {a b} h x hx y hy => ?_⟩
  · rw [List.pairwise_iff_getElem]
    intro i j hi hj _
    have h1 := of_decide_eq_true (List.mem_filter.1 (List.getElem_mem hi)).2
    have h2 := of_decide_eq_true (List.mem_filter.1 (List.getElem_mem hj)).2
    omega
  · have h1 := of_decide_eq_true (List.mem_filter.1 hx).2
    have h2 := of_decide_eq_true (List.mem_filter.1 hy).2
    omega
theorem sorted_one {a b : List Int} (h : a.Perm b) (ha : a.Pairwise (· ≤ ·)) (hb : b.Pairwise (· ≤ ·)) : a = b :=
  List.Perm.eq_of_pairwise (le := (· ≤ ·)) (fun x y _ _ h1 h2 => by omega) ha hb h
theorem formR_lt (S : List (Rc × Nat)) : ∀ c ∈ S, c.2 < (formR S).length := by
  induction S using rev_ind with
  | nil => intro c hc; cases hc
  | append_singleton S d ih =>
    intro c hc
    rw [formR_snoc, addR_len]
    rcases List.mem_append.1 hc with hc | hc
    · have := ih c hc; omega
    · have : c = d := by simpa using hc
      rw [this]; omega
/-- The program's rows are the reference's. -/
theorem rows_eq {S : List (Rc × Nat)} {nA : Nat} (h : ∀ c ∈ S, 0 ≤ c.1.1 ∧ c.1.1 < (nA : Int)) {zss : List (List Int)} (hl : zss.length = (formR S).length) (hz : ∀ (i : Nat) (z : List Int), zss[i]? = some z → z.Perm (((formR S)[i]?).getD []) ∧ z.Pairwise (· ≤ ·)) : zss = (List.range (formR S).length).map (refRow S nA) := by
  apply List.ext_getElem
  · simp [hl]
  · intro i h1 h2
    obtain ⟨p, q⟩ := hz i zss[i] (by simp)
    rw [formR_row] at p
    rw [List.getElem_map, List.getElem_range]
    exact sorted_one (p.trans (refRow_perm h i).symm) q (refRow_sort S nA i)
theorem rawR_snoc (S : List (Rc × Nat)) (c : Rc × Nat) (n : Nat) (w : Int) : (rawR (S ++ [c]) n).filter (fun x => decide (x = w)) = (rawR S n).filter (fun x => decide (x = w)) ++ if c.2 = n ∧ c.1.1 = w then [w] else [] := by
  unfold rawR
  rw [List.filter_append, List.map_append, List.filter_append]
  congr 1
  by_cases z : c.2 = n
  · rw [List.filter_cons_of_pos (by exact decide_eq_true z), List.filter_nil, List.map_singleton]
    by_cases y : c.1.1 = w
    · rw [List.filter_cons_of_pos (by exact decide_eq_true y), if_pos ⟨z, y⟩, y]; rfl
    · rw [List.filter_cons_of_neg (by simpa using y), if_neg (fun q => y q.2)]; rfl
  · rw [List.filter_cons_of_neg (by simpa using z), if_neg (fun q => z q.1)]; rfl

def Zs (S : List (Rc × Nat)) (nA m n : Nat) (part : List Int) : List (List Int) := (List.range m).map fun j => if j < n then refRow S nA j else if j = n then part else []
theorem Zs_len (S : List (Rc × Nat)) (nA m n : Nat) (part : List Int) : (Zs S nA m n part).length = m := by simp [Zs]
theorem Zs_at {S : List (Rc × Nat)} {nA m n : Nat} {part : List Int} (h : n < m) : (Zs S nA m n part)[n]? = some part := by
  unfold Zs
  rw [List.getElem?_map, List.getElem?_range h]
  simp
theorem Zs_get (S : List (Rc × Nat)) (nA m n : Nat) (part : List Int) (i : Nat) : (Zs S nA m n part)[i]? = if i < m then some (if i < n then refRow S nA i else if i = n then part else []) else none := by
  unfold Zs
  rw [List.getElem?_map]
  by_cases c : i < m
  · rw [if_pos c, List.getElem?_range c]; rfl
  · rw [if_neg c, List.getElem?_eq_none (by simpa using c)]; rfl
theorem Zs_set {S : List (Rc × Nat)} {nA m n : Nat} {part part' : List Int} (h : n < m) : (Zs S nA m n part).set n part' = Zs S nA m n part' := by
  apply List.ext_getElem?
  intro i
  rw [List.getElem?_set, Zs_len, Zs_get, Zs_get]
  by_cases c : n = i
  · subst c
    rw [if_pos rfl, if_pos h, if_pos h, if_neg (Nat.lt_irrefl n), if_pos rfl]
  · rw [if_neg c]
    by_cases d : i < m
    · rw [if_pos d, if_pos d]
      by_cases e : i < n
      · rw [if_pos e, if_pos e]
      · rw [if_neg e, if_neg e, if_neg (fun q => c q.symm), if_neg (fun q => c q.symm)]
    · rw [if_neg d, if_neg d]
theorem Zs_next {S : List (Rc × Nat)} {nA m n : Nat} : Zs S nA m n (refRow S nA n) = Zs S nA m (n + 1) [] := by
  unfold Zs
  refine List.map_congr_left fun j _ => ?_
  by_cases c : j < n
  · rw [if_pos c, if_pos (by omega)]
  · rw [if_neg c]
    by_cases d : j = n
    · subst d; rw [if_pos rfl, if_pos (by omega)]
    · rw [if_neg d, if_neg (by omega)]
      by_cases e : j = n + 1
      · rw [if_pos e]
      · rw [if_neg e]

theorem rbound_spec {sc : Sc} {a b : Rc} {h : Heap} {cD : Sc → Ac → Ac → Heap → (Bool → Heap → Prop) → Prop} (iD : ∀ {x y : Ac} {h : Heap} {Q : Bool → Heap → Prop}, (∀ b : Bool, (b = true ↔ DepI sc.1 (sc.2.1.len : Int) x.2.1 x.2.2.1 x.2.2.2.1 y.2.1 y.2.2.1 y.2.2.2.1) → Q b h) → cD sc x y h Q)
    {Q : Bool → Heap → Prop} (hQ : Q (bdA sc.1 (sc.2.1.len : Int) a b) h) : ref22_bound.M cD sc a b h Q := by
  have key : ∀ c : Bool, (c = true ↔ (a.1 = b.1 ∨ DepI sc.1 (sc.2.1.len : Int) a.2.1.2.1 a.2.1.2.2.1 a.2.1.2.2.2.1 b.2.1.2.1 b.2.1.2.2.1 b.2.1.2.2.2.1)) → Q c h := fun c hc => by
    have : c = bdA sc.1 (sc.2.1.len : Int) a b := by
      unfold bdA
      rw [Bool.eq_iff_iff, hc, decide_eq_true_eq]
    rw [this]; exact hQ
  refine dcs (fun e => key true ⟨fun _ => .inl e, fun _ => rfl⟩) (fun e => iD fun c hc => key c (hc.trans ⟨.inr, fun z => z.resolve_left e⟩))

section
variable {h0 h : Heap} {sc : Sc} {l : List Rc} {rl : Sl} (nl : New h0 h kref22Act rl l) (hl : l.length ≤ 12) (hA : sc.2.2.1.len ≤ 4)
  {cB : Sc → Rc → Rc → Heap → (Bool → Heap → Prop) → Prop}
  (iB : ∀ {a b : Rc} {h : Heap} {Q : Bool → Heap → Prop}, Q (bdA sc.1 (sc.2.1.len : Int) a b) h → cB sc a b h Q)
include nl hl hA iB
theorem rform_spec {Q : (Sl × (Int × Unit)) → Heap → Prop} (hQ : ∀ o els h', Nest h h' ki o els ((List.range (formR (steps (bdA sc.1 (sc.2.1.len : Int)) l)).length).map (refRow (steps (bdA sc.1 (sc.2.1.len : Int)) l) sc.2.2.1.len)) → Q (o, (0, ())) h') :
    Loop (ref22_Foata.l10 cB sc Q rl) (⟨none, 0, 0⟩, ⟨none, 0, 0⟩, 0, ()) h := by
  obtain ⟨size, bg, lsl, u0⟩ := sc
  have hQ : ∀ o els h', Nest h h' ki o els ((List.range (formR (steps (bdA size (bg.len : Int)) l)).length).map (refRow (steps (bdA size (bg.len : Int)) l) lsl.len)) → Q (o, (0, ())) h' := hQ
  have iB : ∀ {a b : Rc} {h : Heap} {Q : Bool → Heap → Prop}, Q (bdA size (bg.len : Int) a b) h → cB (size, (bg, (lsl, u0))) a b h Q := iB
  have hA : lsl.len ≤ 4 := hA
  generalize bdA size (bg.len : Int) = bd at *
  have hll := nl.len
  have hTL : ∀ i, i ≤ l.length → (steps bd (l.take i)).length = i := fun i hi => by rw [steps_len, List.length_take]; omega
  refine Loop.up l.length (fun s => s.2.2.1) (fun i st k => ∃ els, New h k ki st.1 ((steps bd (l.take i)).map fun c => (c.2 : Int)) ∧ Nest h k ki st.2.1 els (List.replicate (formR (steps bd (l.take i))).length []) ∧ ∀ b, blkOf st.1 b → ¬ fpN st.2.1 els b) rfl
    ⟨[], New.none (le.refl _) _, ⟨New.none (le.refl _) _, rfl, fun i sl xs a => (by cases a), List.pairwise_singleton ..⟩, fun b hb => absurd hb no_blk⟩ ?_
  rintro i ⟨st, fo, i', u⟩ k go hi hcc ⟨els, n1, n2, ap⟩ hgo
  dsimp only at hcc n1 n2 ap; subst hcc
  have n1l := n1.len
  rw [List.length_map, hTL i hi] at n1l
  refine dcs (fun e => ?_) (fun e => ?_)
  · have e : (i : Int) < (rl.len : Int) := e
    have hil : i < l.length := by omega
    have htk := take_succ' l hil
    have hSi : ∀ c ∈ steps bd (l.take i), c.2 < 12 := fun c hc => by
      have := steps_lt bd _ c hc
      rw [List.length_take] at this; omega
    have hfl := formR_len _ 12 hSi
    -- the step of the act
    refine Loop.up i (fun s => s.2.1) (fun j s k' => k' = k ∧ s.1 = ((stF bd ((steps bd (l.take i)).take j) l[i] : Nat) : Int)) rfl ⟨rfl, rfl⟩ ?_
    rintro j ⟨d, j', u2⟩ k' go2 hj hcj ⟨rfl, hd⟩ hgo2
    dsimp only at hcj hd; subst hcj; subst hd
    have hst := stF_le bd l[i] ((steps bd (l.take i)).take j) 12 fun c hc => hSi c (List.mem_of_mem_take hc)
    refine dcs (fun e2 => ?_) (fun e2 => ?_)
    · have e2 : (j : Int) < (i : Int) := e2
      have hji : j < i := by omega
      have hjs : j < (steps bd (l.take i)).length := by rw [hTL i hi]; exact hji
      have hg : ((steps bd (l.take i)).map fun c => (c.2 : Int))[j]? = some (((steps bd (l.take i))[j]).2 : Int) := by rw [List.getElem?_map, List.getElem?_eq_getElem hjs]; rfl
      have hfst : ((steps bd (l.take i))[j]).1 = l[j] := by
        have this : ((steps bd (l.take i)).map (·.1))[j]? = (l.take i)[j]? := by rw [steps_fst]
        rw [List.getElem?_map, List.getElem?_eq_getElem hjs, List.getElem?_take, if_pos hji, List.getElem?_eq_getElem (by omega)] at this
        exact Option.some.inj this
      have hs1 := stF_take bd (steps bd (l.take i)) l[i] hjs
      have hc12 := hSi _ (List.getElem_mem hjs)
      refine ⟨⟨Int.natCast_nonneg j, show (j : Int) < (st.len : Int) by omega⟩, n1.arr.at (Int.natCast_nonneg j) (show (j : Int) < (st.len : Int) by omega) rfl fun y hy => ?_⟩
      rw [Int.toNat_natCast, hg] at hy
      have hy := Option.some.inj hy
      subst hy
      rw [hfst] at hs1
      generalize ((steps bd (l.take i))[j]).2 = q at *
      have nxt : ∀ v : Int, v = ((stF bd ((steps bd (l.take i)).take (j + 1)) l[i] : Nat) : Int) → ref22_Foata.j2 go2 (((stF bd ((steps bd (l.take i)).take j) l[i] : Nat) : Int), ((j : Int), u2)) (v, ()) k' := fun v hv =>
        hgo2 hji _ _ (w64_up' (n := i) hji (by omega)) ⟨rfl, hv⟩
      have j3 : ∀ b : Bool, (b = true ↔ (((stF bd ((steps bd (l.take i)).take j) l[i] : Nat) : Int) ≤ (q : Int) ∧ bd l[j] l[i] = true)) → ref22_Foata.j3 (st, (fo, ((i : Int), u))) go2 (((stF bd ((steps bd (l.take i)).take j) l[i] : Nat) : Int), ((j : Int), u2)) (b, ()) k' := fun b hb => by
        refine bcs (fun z => ?_) (fun z => nxt _ ?_)
        · have z : b = true := z
          obtain ⟨z1, z2⟩ := hb.1 z
          refine ⟨⟨Int.natCast_nonneg j, show (j : Int) < (st.len : Int) by omega⟩, n1.arr.at (Int.natCast_nonneg j) (show (j : Int) < (st.len : Int) by omega) rfl fun y hy => ?_⟩
          rw [Int.toNat_natCast, hg] at hy
          have hy := Option.some.inj hy
          subst hy
          have w1 : w64 ((q : Int) + 1) = (q : Int) + 1 := by rw [w64_of] <;> omega
          refine nxt _ ?_
          show w64 ((q : Int) + 1) = _
          rw [w1, hs1, if_pos z2]
          omega
        · have z : b = false := z
          show ((stF bd ((steps bd (l.take i)).take j) l[i] : Nat) : Int) = _
          rw [hs1]
          by_cases y : bd l[j] l[i] = true
          · rw [if_pos y]
            have : ¬ (((stF bd ((steps bd (l.take i)).take j) l[i] : Nat) : Int) ≤ (q : Int)) := fun w => by rw [hb.2 ⟨w, y⟩] at z; cases z
            omega
          · rw [if_neg y]
      refine dcs (fun e3 => ?_) (fun e3 => j3 false ⟨fun z => (by cases z), fun z => absurd z.1 e3⟩)
      have arl := (nl.more n1.le).arr
      obtain ⟨al, hal⟩ := arl.addr (by omega)
      refine ⟨⟨Int.natCast_nonneg j, show (j : Int) < (rl.len : Int) by omega⟩, ?_⟩
      rw [hal]
      simp only [deref]
      refine ⟨⟨Int.natCast_nonneg i, e⟩, ?_⟩
      rw [Int.toNat_natCast, Int.toNat_natCast]
      refine arl.ldAt (k := kref22Act) hal (List.getElem?_eq_getElem (by omega)) rfl (arl.ldAt (k := kref22Act) hal (List.getElem?_eq_getElem hil) rfl (iB (j3 _ ?_)))
      exact ⟨fun z => ⟨e3, z⟩, fun z => z.2⟩
    · have e2 : ¬ (j : Int) < (i : Int) := e2
      obtain rfl : j = i := by omega
      rw [List.take_of_length_le (by rw [hTL j hi]; omega)] at hst ⊢
      have hS1 : steps bd (l.take (j + 1)) = steps bd (l.take j) ++ [(l[j], stF bd (steps bd (l.take j)) l[j])] := by rw [htk, steps_snoc]
      have hle : stF bd (steps bd (l.take j)) l[j] ≤ (formR (steps bd (l.take j))).length := by
        rcases (stF_spec bd l[j] (steps bd (l.take j))).2 with z | ⟨c, z1, _, z3⟩
        · omega
        · have := formR_lt _ c z1; omega
      generalize hq : stF bd (steps bd (l.take j)) l[j] = q at *
      refine n1.app3 (x := (q : Int)) rfl rfl (by omega) fun t3 h3 m1 x3 b3 => ?_
      have n2' := n2.ext x3 (fun x hx hs => ap x hs hx) n1.new
      have ap' : ∀ b, blkOf t3 b → ¬ fpN fo els b := fun b hb hf => by
        rcases b3 b hb with z | z
        · exact ap b z hf
        · exact n2.live hf z
      have hfo := n2.out.len
      rw [n2.len, List.length_replicate] at hfo
      have m1 : New h h3 ki t3 ((steps bd (l.take (j + 1))).map fun c => (c.2 : Int)) := by
        rw [hS1, List.map_append]; exact m1
      have nx : ∀ fo' els' k', New h k' ki t3 ((steps bd (l.take (j + 1))).map fun c => (c.2 : Int)) → Nest h k' ki fo' els' (List.replicate (formR (steps bd (l.take (j + 1)))).length []) → (∀ b, blkOf t3 b → ¬ fpN fo' els' b) → ref22_Foata.j1 go (st, (fo, ((j : Int), u))) (t3, (fo', ())) k' := fun fo' els' k' p1 p2 p3 =>
        hgo hil _ _ (w64_up' (n := l.length) hil (by omega)) ⟨els', p1, p2, p3⟩
      have hfl1 : (formR (steps bd (l.take (j + 1)))).length = max (formR (steps bd (l.take j))).length (q + 1) := by rw [hS1, formR_snoc, addR_len]
      refine dcs (fun e3 => ?_) (fun e3 => ?_)
      · have e3 : (q : Int) = (fo.len : Int) := e3
        refine n2'.snil (by omega) fun t4 h4 n4 s4 => nx t4 (els ++ [Sl.none]) h4 (m1.ext s4.1 (fun b hb hf => ap' b hb hf) (fun b hb => n2'.fresh hb)) ?_ fun b hb hf => ?_
        · rw [hfl1, show max (formR (steps bd (l.take j))).length (q + 1) = (formR (steps bd (l.take j))).length + 1 by omega, List.replicate_succ']
          exact n4
        · rcases s4.2 b hf with z | z
          · exact ap' b hb z
          · exact m1.own.live b hb z
      · have e3 : ¬ (q : Int) = (fo.len : Int) := e3
        refine nx fo els h3 m1 ?_ ap'
        rw [hfl1, show max (formR (steps bd (l.take j))).length (q + 1) = (formR (steps bd (l.take j))).length by omega]
        exact n2'
  · have e : ¬ (i : Int) < (rl.len : Int) := e
    obtain rfl : i = l.length := by omega
    rw [List.take_length] at n1 n2
    have hS12 : ∀ c ∈ steps bd l, c.2 < 12 := fun c hc => by have := steps_lt bd _ c hc; omega
    have hfl := formR_len _ 12 hS12
    have hSl := steps_len bd l
    have hfst : ∀ (i : Nat) c, (steps bd l)[i]? = some c → l[i]? = some c.1 := fun i c h => by
      have this : ((steps bd l).map (·.1))[i]? = l[i]? := by rw [steps_fst]
      rw [List.getElem?_map, h] at this
      exact this.symm
    generalize steps bd l = S at *
    generalize hm : (formR S).length = m at *
    have hz0 : List.replicate m ([] : List Int) = Zs S lsl.len m 0 [] := by
      unfold Zs
      apply List.ext_getElem
      · simp
      · intro i _ _; simp
    rw [hz0] at n2
    have fol : fo.len = m := by rw [← n2.out.len, n2.len, Zs_len]
    clear hgo
    refine Loop.up m (fun s => s.1) (fun n s k' => ∃ els', Nest h k' ki fo els' (Zs S lsl.len m n []) ∧ New h k' ki st (S.map fun c => (c.2 : Int)) ∧ ∀ b, blkOf st b → ¬ fpN fo els' b) rfl ⟨els, n2, n1, ap⟩ ?_
    rintro n ⟨n', u2⟩ k1 go1 hn hc1 ⟨els1, a1, a2, a3⟩ hgo1
    dsimp only at hc1; subst hc1
    refine dcs (fun e1 => ?_) (fun e1 => ?_)
    · have e1 : (n : Int) < (fo.len : Int) := e1
      have hnm : n < m := by omega
      refine Loop.up lsl.len (fun s => s.1) (fun w s k' => ∃ els', Nest h k' ki fo els' (Zs S lsl.len m n ((List.range w).flatMap fun w : Nat => (rawR S n).filter fun x => decide (x = (w : Int)))) ∧ New h k' ki st (S.map fun c => (c.2 : Int)) ∧ ∀ b, blkOf st b → ¬ fpN fo els' b) rfl ⟨els1, a1, a2, a3⟩ ?_
      rintro w ⟨w', u3⟩ k2 go2 hw hc2 ⟨els2, b1, b2, b3⟩ hgo2
      dsimp only at hc2; subst hc2
      refine dcs (fun e2 => ?_) (fun e2 => ?_)
      · have e2 : (w : Int) < (lsl.len : Int) := e2
        refine Loop.up S.length (fun s => s.1) (fun i s k' => ∃ els', Nest h k' ki fo els' (Zs S lsl.len m n (((List.range w).flatMap fun w : Nat => (rawR S n).filter fun x => decide (x = (w : Int))) ++ (rawR (S.take i) n).filter fun x => decide (x = (w : Int)))) ∧ New h k' ki st (S.map fun c => (c.2 : Int)) ∧ ∀ b, blkOf st b → ¬ fpN fo els' b) rfl ⟨els2, by rw [show (rawR (S.take 0) n).filter (fun x => decide (x = (w : Int))) = [] from rfl, List.append_nil]; exact b1, b2, b3⟩ ?_
        rintro i ⟨i', u4⟩ k3 go3 hi3 hc3 ⟨els3, d1, d2, d3⟩ hgo3
        dsimp only at hc3; subst hc3
        refine dcs (fun e3 => ?_) (fun e3 => ?_)
        · have e3 : (i : Int) < (rl.len : Int) := e3
          have hiS : i < S.length := by omega
          have hg : (S.map fun c => (c.2 : Int))[i]? = some ((S[i]).2 : Int) := by rw [List.getElem?_map, List.getElem?_eq_getElem hiS]; rfl
          have hstl : st.len = S.length := by rw [← d2.len, List.length_map]
          have htk := take_succ' S hiS
          have hil : i < l.length := by omega
          have hws : S[i].1 = l[i]'hil := by
            have := hfst i S[i] (by simp)
            rw [List.getElem?_eq_getElem hil] at this
            exact (Option.some.inj this).symm
          have hrs := rawR_snoc (S.take i) S[i] n (w : Int)
          rw [← htk] at hrs
          refine ⟨⟨Int.natCast_nonneg i, show (i : Int) < (st.len : Int) by omega⟩, d2.arr.at (Int.natCast_nonneg i) (show (i : Int) < (st.len : Int) by omega) rfl fun y hy => ?_⟩
          rw [Int.toNat_natCast, hg] at hy
          have hy := Option.some.inj hy
          subst hy
          have nx : ∀ k' els', Nest h k' ki fo els' (Zs S lsl.len m n (((List.range w).flatMap fun w : Nat => (rawR S n).filter fun x => decide (x = (w : Int))) ++ (rawR (S.take (i + 1)) n).filter fun x => decide (x = (w : Int)))) → New h k' ki st (S.map fun c => (c.2 : Int)) → (∀ b, blkOf st b → ¬ fpN fo els' b) → ref22_Foata.j5 go3 ((i : Int), u4) () k' := fun k' els' p1 p2 p3 =>
            hgo3 hiS _ _ (w64_up' (n := S.length) hiS (by omega)) ⟨els', p1, p2, p3⟩
          have j6 : ∀ b : Bool, (b = true ↔ (S[i].2 = n ∧ S[i].1.1 = (w : Int))) → ref22_Foata.j6 (st, (fo, ((l.length : Int), u))) ((n : Int), u2) ((w : Int), u3) go3 ((i : Int), u4) (b, ()) k3 := fun b hb => by
            refine bcs (fun z => ?_) (fun z => ?_)
            · have z : b = true := z
              rw [if_pos (hb.1 z)] at hrs
              refine ⟨⟨Int.natCast_nonneg n, e1⟩, d1.out.arr.at (Int.natCast_nonneg n) e1 rfl fun sl hsl => ?_⟩
              rw [Int.toNat_natCast] at hsl
              have nr := d1.row n sl _ hsl (Zs_at hnm)
              have nrl := nr.len
              have hlen : sl.len ≤ 100 := by
                rw [← nrl, List.length_append, List.length_flatMap]
                have h1 : ((rawR (S.take i) n).filter fun x => decide (x = (w : Int))).length ≤ 12 := by
                  have q1 := List.length_filter_le (fun x => decide (x = (w : Int))) (rawR (S.take i) n)
                  have q2 : (rawR (S.take i) n).length ≤ (S.take i).length := by unfold rawR; rw [List.length_map]; exact List.length_filter_le _ _
                  rw [List.length_take] at q2
                  omega
                have h2 : ((List.range w).map fun w : Nat => ((rawR S n).filter fun x => decide (x = (w : Int))).length).sum ≤ w * 12 := by
                  have : ∀ (L : List Nat), (L.map fun w : Nat => ((rawR S n).filter fun x => decide (x = (w : Int))).length).sum ≤ L.length * 12 := by
                    intro L
                    induction L with
                    | nil => exact Nat.le_refl _
                    | cons a L ih =>
                      rw [List.map_cons, List.sum_cons, List.length_cons]
                      have q1 := List.length_filter_le (fun x => decide (x = (a : Int))) (rawR S n)
                      have q2 : (rawR S n).length ≤ S.length := by unfold rawR; rw [List.length_map]; exact List.length_filter_le _ _
                      omega
                  have := this (List.range w)
                  rwa [List.length_range] at this
                omega
              refine nr.app3 (k := ki) (x := (w : Int)) rfl rfl (by omega) fun t4 h4 n4 x4 b4 => ?_
              refine ⟨⟨Int.natCast_nonneg n, e1⟩, d1.put rfl hsl n4 x4 b4 rfl fun h5 n5 s5 => ?_⟩
              rw [Zs_set hnm, List.append_assoc, ← hrs] at n5
              have d2' := d2.ext s5.1 (fun b hb hf => d3 b hb hf) (fun b hb => d1.fresh hb)
              refine nx h5 _ n5 d2' fun b hb hf => ?_
              rcases s5.2 b hf with z | z
              · exact d3 b hb z
              · exact d2.own.live b hb z
            · have z : b = false := z
              rw [if_neg (fun y => by rw [hb.2 y] at z; cases z), List.append_nil] at hrs
              exact nx k3 els3 (by rw [hrs]; exact d1) d2 d3
          refine dcs (fun e4 => ?_) (fun e4 => j6 false ⟨fun z => (by cases z), fun z => absurd (show ((S[i]).2 : Int) = (n : Int) by omega) e4⟩)
          have e4 : ((S[i]).2 : Int) = (n : Int) := e4
          have arl := (nl.more d2.le).arr
          refine ⟨⟨Int.natCast_nonneg i, e3⟩, arl.part (kp := ki) (f := fun a : Rc => a.1) (Int.natCast_nonneg i) e3 (off := 0) rfl (fun x => ⟨[], (Kd.cells kref22Act x).drop 1, rfl, rfl⟩) fun y hy => ?_⟩
          rw [Int.toNat_natCast, List.getElem?_eq_getElem hil] at hy
          have hy := Option.some.inj hy
          subst hy
          refine j6 _ ?_
          rw [decide_eq_true_eq, hws]
          exact ⟨fun z => ⟨by omega, z⟩, fun z => z.2⟩
        · have e3 : ¬ (i : Int) < (rl.len : Int) := e3
          obtain rfl : i = S.length := by omega
          rw [List.take_length] at d1
          refine hgo2 (by omega) _ _ (w64_up' (n := lsl.len) (by omega) (by omega)) ⟨els3, ?_, d2, d3⟩
          rw [List.range_succ, List.flatMap_append]
          simpa using d1
      · have e2 : ¬ (w : Int) < (lsl.len : Int) := e2
        obtain rfl : w = lsl.len := by omega
        refine hgo1 hnm _ _ (w64_up' (n := m) hnm (by omega)) ⟨els2, ?_, b2, b3⟩
        rw [← Zs_next]; exact b1
    · have e1 : ¬ (n : Int) < (fo.len : Int) := e1
      obtain rfl : n = m := by omega
      refine hQ fo els1 k1 ?_
      have : Zs S lsl.len n n [] = (List.range n).map (refRow S lsl.len) := by
        unfold Zs
        exact List.map_congr_left fun j hj => by rw [if_pos (List.mem_range.1 hj)]
      rw [← this]
      exact a1
end
end Go.Mx
