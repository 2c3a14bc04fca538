/-
  The normal form: the program's rows.
-/
import Derived.Test.YtipihecaaakagaaMxKd
set_option linter.unusedVariables false
set_option linter.unusedSimpArgs false
set_option linter.unusedSectionVars false
namespace Go.Mx

/-- One more empty row. -/
theorem Nest.snil {h0 h : Heap} {k : Kd} {o : Sl} {els : List Sl} {xss : List (List (Den k))} (n : Nest h0 h k o els xss) (hb : (o.len + 1) * 24 ≤ 140737488355328) {K : Sl → Heap → Prop}
    (hK : ∀ t h', Nest h0 h' k t (els ++ [Sl.none]) (xss ++ [[]]) → Step (fpN o els) (fpN t (els ++ [Sl.none])) h h' → K t h') : Go.Mx.new h ([Sl.none].flatMap (Kd.cells .sl)) fun p h1 => appendM 1 24 h1 o ⟨some p, 1, 1⟩ K := by
  obtain ⟨s1, s2⟩ := List.pairwise_cons.1 n.sep
  refine n.out.app3 rfl rfl hb fun t h' n2 x2 b2 => hK t h' ⟨n2, by rw [List.length_append, List.length_append, n.len]; rfl, fun i sl xs a b => ?_, List.pairwise_cons.2 ⟨fun sl hs b hb1 hb2 => ?_, ?_⟩⟩ ⟨x2.mono fun x q => .inl q, fun x q => ?_⟩
  · by_cases c : i < els.length
    · rw [List.getElem?_append_left c] at a
      rw [List.getElem?_append_left (by rw [← n.len]; exact c)] at b
      exact (n.row i sl xs a b).ext x2 (fun z u v => s1 sl (List.mem_of_getElem? a) z v u) n.out.new
    · rw [List.getElem?_append_right (by omega)] at a
      rw [List.getElem?_append_right (by rw [← n.len]; omega)] at b
      have a1 := List.mem_of_getElem? a
      have b1 := List.mem_of_getElem? b
      have a1 : sl = Sl.none := by simpa using a1
      have b1 : xs = [] := by simpa using b1
      subst a1; subst b1
      exact New.none n2.le k
  · rcases List.mem_append.1 hs with hs | hs
    · rcases b2 b hb1 with d | d
      · exact s1 sl hs b d hb2
      · obtain ⟨xs, q⟩ := n.row' hs
        exact q.own.live b hb2 d
    · have : sl = Sl.none := by simpa using hs
      subst this
      exact no_blk hb2
  · rw [List.pairwise_append]
    refine ⟨s2, by simp, fun a _ b hb' x hx hy => ?_⟩
    have : b = Sl.none := by simpa using hb'
    subst this
    exact no_blk hy
  · rcases q with q | ⟨sl, hs, q⟩
    · rcases b2 x q with d | d
      · exact .inl (.inl d)
      · exact .inr d
    · rcases List.mem_append.1 hs with hs | hs
      · exact .inl (.inr ⟨sl, hs, q⟩)
      · have : sl = Sl.none := by simpa using hs
        subst this
        exact absurd q no_blk
/-- A row is written over where it lies. -/
theorem Nest.inRow {h0 h h2 : Heap} {k : Kd} {o : Sl} {els : List Sl} {xss : List (List (Den k))} (n : Nest h0 h k o els xss) {i : Nat} {sl : Sl} {ys : List (Den k)} (hs : els[i]? = some sl) (nt : New h0 h2 k sl ys) (x2 : Ext (blkOf sl) h h2) : Nest h0 h2 k o els (xss.set i ys) := by
  obtain ⟨s1, s2⟩ := List.pairwise_cons.1 n.sep
  have hm : sl ∈ els := List.mem_of_getElem? hs
  obtain ⟨xs0, r0⟩ := n.row' hm
  refine ⟨n.out.ext x2 (fun b x y => s1 sl hm b x y) r0.new, by rw [List.length_set]; exact n.len, fun j sj xs a b => ?_, n.sep⟩
  by_cases c : j = i
  · subst c
    rw [hs] at a; cases a
    rw [List.getElem?_set_self (by rw [← n.len]; exact (List.getElem?_eq_some_iff.1 hs).1)] at b; cases b
    exact nt
  · rw [List.getElem?_set_ne (fun e => c e.symm)] at b
    refine (n.row j sj xs a b).ext x2 (fun z u v => ?_) r0.new
    obtain ⟨hj', rfl⟩ := List.getElem?_eq_some_iff.1 a
    obtain ⟨hi', rfl⟩ := List.getElem?_eq_some_iff.1 hs
    rw [List.pairwise_iff_getElem] at s2
    rcases Nat.lt_or_gt_of_ne c with c | c
    · exact s2 j i hj' hi' c z u v
    · exact s2 i j hi' hj' c z v u

def addR (rows : List (List Int)) (n : Nat) (w : Int) : List (List Int) := (rows ++ List.replicate (n + 1 - rows.length) []).set n (((rows ++ List.replicate (n + 1 - rows.length) [])[n]?).getD [] ++ [w])
def formR (S : List (Rc × Nat)) : List (List Int) := S.foldl (fun rows c => addR rows c.2 c.1.1) []
theorem formR_snoc (S : List (Rc × Nat)) (c : Rc × Nat) : formR (S ++ [c]) = addR (formR S) c.2 c.1.1 := by unfold formR; rw [List.foldl_append]; rfl
theorem addR_len (rows : List (List Int)) (n : Nat) (w : Int) : (addR rows n w).length = max rows.length (n + 1) := by
  unfold addR
  rw [List.length_set, List.length_append, List.length_replicate]; omega
theorem addR_at (rows : List (List Int)) (n : Nat) (w : Int) (i : Nat) : ((addR rows n w)[i]?).getD [] = if i = n then (rows[n]?).getD [] ++ [w] else (rows[i]?).getD [] := by
  have hl : n < (rows ++ List.replicate (n + 1 - rows.length) []).length := by rw [List.length_append, List.length_replicate]; omega
  have hg : ∀ i, ((rows ++ List.replicate (n + 1 - rows.length) [])[i]?).getD [] = (rows[i]?).getD [] := fun i => by
    by_cases c : i < rows.length
    · rw [List.getElem?_append_left c]
    · rw [List.getElem?_append_right (by omega), List.getElem?_eq_none (l := rows) (by omega), List.getElem?_replicate]
      split <;> rfl
  unfold addR
  by_cases c : i = n
  · subst c
    rw [if_pos rfl, List.getElem?_set_self hl, hg]; rfl
  · rw [if_neg c, List.getElem?_set_ne (fun e => c e.symm), hg]
theorem formR_len (S : List (Rc × Nat)) (n : Nat) (h : ∀ c ∈ S, c.2 < n) : (formR S).length ≤ n := by
  induction S using rev_ind with
  | nil => exact Nat.zero_le _
  | append_singleton S c ih =>
    rw [formR_snoc, addR_len]
    have := ih fun d hd => h d (List.mem_append_left _ hd)
    have := h c (by simp)
    omega
theorem formR_row (S : List (Rc × Nat)) (i : Nat) : ((formR S)[i]?).getD [] = (S.filter fun c => decide (c.2 = i)).map fun c => c.1.1 := by
  induction S using rev_ind with
  | nil => rfl
  | append_singleton S c ih =>
    rw [formR_snoc, addR_at, List.filter_append, List.map_append]
    by_cases e : c.2 = i
    · subst e
      rw [if_pos rfl, ih, List.filter_cons_of_pos (by exact decide_eq_true rfl)]; rfl
    · rw [if_neg (fun q => e q.symm), ih, List.filter_cons_of_neg (by simpa using e)]
      simp
theorem formR_rowlen (S : List (Rc × Nat)) {i : Nat} {row : List Int} (h : (formR S)[i]? = some row) : row.length ≤ S.length := by
  have := formR_row S i
  rw [h] at this
  have this : row = (S.filter fun c => decide (c.2 = i)).map fun c => c.1.1 := this
  rw [this, List.length_map]
  exact List.length_filter_le _ _

section
variable {h : Heap} {s : Sc} {t : Sl} {S : List (Rc × Nat)} (hSl : S.length ≤ 12) (hS2 : ∀ c ∈ S, c.2 < 12)
  {cT : Sc → Sl → Heap → (Sl → Heap → Prop) → Prop} {cS : Sl → Heap → (Unit → Heap → Prop) → Prop}
  (iT : ∀ {Q : Sl → Heap → Prop}, (∀ l h', New h h' kexploredone l (S.map toDone) → Q l h') → cT s t h Q)
  (iS : ∀ {sl : Sl} {h0 h : Heap} {ys : List Int} {Q : Unit → Heap → Prop}, New h0 h ki sl ys → ys.length ≤ 12 → (∀ zs h', New h0 h' ki sl zs → zs.Perm ys → zs.Pairwise (· ≤ ·) → Ext (blkOf sl) h h' → Q () h') → cS sl h Q)
include hSl hS2 iT iS
theorem form_spec {Q : Sl → Heap → Prop} (hQ : ∀ o els (zss : List (List Int)) h', Nest h h' ki o els zss → zss.length = (formR S).length → (∀ (i : Nat) (z : List Int), zss[i]? = some z → z.Perm (((formR S)[i]?).getD []) ∧ z.Pairwise (· ≤ ·)) → Q o h') : explore_form.M cT cS s t h Q := by
  refine iT fun l h1 nl => ?_
  have hll := nl.len
  rw [List.length_map] at hll
  have lv := nl.own.live
  refine Loop.up S.length (fun s => s.2.1) (fun i st k => ∃ els, Nest h1 k ki st.1 els (formR (S.take i))) rfl ⟨[], ⟨New.none (le.refl _) _, rfl, fun i sl xs a => (by cases a), List.pairwise_singleton ..⟩⟩ ?_
  rintro i ⟨o, i', u⟩ k go hi hcc ⟨els, n⟩ hgo
  dsimp only at hcc n; subst hcc
  have nlk := nl.more n.le
  refine dcs (fun e => ?_) (fun e => ?_)
  · have e : (i : Int) < (l.len : Int) := e
    have hil : i < S.length := by omega
    refine ⟨⟨Int.natCast_nonneg i, e⟩, nlk.arr.at (by omega) e rfl fun y hy => ?_⟩
    rw [Int.toNat_natCast, List.getElem?_map, List.getElem?_eq_getElem hil] at hy
    have hy := Option.some.inj hy
    subst hy
    have hc2 := hS2 _ (List.getElem_mem hil)
    have hsn : formR (S.take (i + 1)) = addR (formR (S.take i)) S[i].2 S[i].1.1 := by rw [take_succ' S hil, formR_snoc]
    have hrl := formR_len (S.take i) 12 fun c hc => hS2 c (List.mem_of_mem_take hc)
    have hrw : ∀ (j : Nat) (row : List Int), (formR (S.take i))[j]? = some row → row.length ≤ 12 := fun j row hr => by
      have := formR_rowlen _ hr
      rw [List.length_take] at this; omega
    generalize formR (S.take i) = rows at *
    generalize S[i] = c at *
    have hol := n.out.len
    rw [n.len] at hol
    refine Loop.up (c.2 + 1 - rows.length) (fun s => (s.1.len : Int) - (rows.length : Int)) (fun j st k' => ∃ els', Nest h1 k' ki st.1 els' (rows ++ List.replicate j [])) (show (o.len : Int) - (rows.length : Int) = 0 by omega) ⟨els, by simpa using n⟩ ?_
    rintro j ⟨o2, u2⟩ k' go2 hj hcj ⟨els2, n2⟩ hgo2
    dsimp only at hcj n2
    have hol2 := n2.out.len
    have hel2 := n2.len
    rw [List.length_append, List.length_replicate] at hel2
    refine dcs (fun e2 => ?_) (fun e2 => ?_)
    · have e2 : (o2.len : Int) < (c.2 : Int) + 1 := e2
      refine n2.snil (by omega) fun t3 h3 n3 _ => ?_
      have h3l := n3.out.len
      rw [List.length_append, List.length_singleton] at h3l
      refine hgo2 (by omega) _ _ (show (t3.len : Int) - (rows.length : Int) = ((j + 1 : Nat) : Int) by omega) ⟨els2 ++ [Sl.none], ?_⟩
      rw [List.append_assoc, ← List.replicate_succ'] at n3
      exact n3
    · have e2 : ¬ (o2.len : Int) < (c.2 : Int) + 1 := e2
      obtain rfl : j = c.2 + 1 - rows.length := by omega
      have w1 : w64 (((c.2 : Int) + 1) - 1) = (c.2 : Int) := by rw [w64_of] <;> omega
      have hlt : c.2 < els2.length := by omega
      have hb : (0 : Int) ≤ (c.2 : Int) ∧ (c.2 : Int) < (o2.len : Int) := by omega
      rw [show w64 ((toDone c).2.1 - 1) = (c.2 : Int) from w1]
      have hlt2 : c.2 < (rows ++ List.replicate (c.2 + 1 - rows.length) []).length := by rw [List.length_append, List.length_replicate]; omega
      have hrr : (rows ++ List.replicate (c.2 + 1 - rows.length) [])[c.2]? = some ((rows ++ List.replicate (c.2 + 1 - rows.length) [])[c.2]'hlt2) := by simp
      refine ⟨hb, n2.out.arr.at hb.1 hb.2 rfl fun sl hsl => ?_⟩
      rw [Int.toNat_natCast] at hsl
      have nr := n2.row c.2 sl _ hsl hrr
      have nrl := nr.len
      have hrow12 : ((rows ++ List.replicate (c.2 + 1 - rows.length) [])[c.2]'hlt2).length ≤ 12 := by
        by_cases z : c.2 < rows.length
        · exact hrw c.2 _ (by rw [← hrr, List.getElem?_append_left z])
        · have := List.getElem?_append_right (l₁ := rows) (l₂ := List.replicate (c.2 + 1 - rows.length) ([] : List Int)) (i := c.2) (by omega)
          rw [this, List.getElem?_replicate] at hrr
          split at hrr
          · rw [← Option.some.inj hrr]; exact Nat.zero_le _
          · cases hrr
      refine nr.app3 (k := ki) (x := c.1.1) rfl rfl (by omega) fun t3 h3 n3 x3 b3 => ?_
      refine ⟨hb, n2.put rfl hsl n3 x3 b3 rfl fun h4 n4 _ => ?_⟩
      refine hgo hil _ _ (w64_up' (n := S.length) hil (by omega)) ⟨els2.set c.2 t3, ?_⟩
      rw [hsn]
      unfold addR
      rw [hrr]
      exact n4
  · have e : ¬ (i : Int) < (l.len : Int) := e
    obtain rfl : i = S.length := by omega
    rw [List.take_length] at n
    have hrl := formR_len S 12 hS2
    have hrw : ∀ (j : Nat) (row : List Int), (formR S)[j]? = some row → row.length ≤ 12 := fun j row hr => by
      have := formR_rowlen _ hr; omega
    clear hgo
    generalize formR S = rows at *
    have hol := n.out.len
    rw [n.len] at hol
    refine Loop.up rows.length (fun s => s.1) (fun i st k' => ∃ zss : List (List Int), Nest h1 k' ki o els zss ∧ zss.length = rows.length ∧ (∀ (j : Nat) (z : List Int), j < i → zss[j]? = some z → z.Perm ((rows[j]?).getD []) ∧ z.Pairwise (· ≤ ·)) ∧ ∀ j, i ≤ j → zss[j]? = rows[j]?) rfl ⟨rows, n, rfl, fun j z hj => absurd hj (Nat.not_lt_zero _), fun j _ => rfl⟩ ?_
    rintro q ⟨q', u2⟩ k' go2 hq hcq ⟨zss, n2, hz, hp1, hp2⟩ hgo2
    dsimp only at hcq; subst hcq
    have hol2 := n2.out.len
    refine dcs (fun e2 => ?_) (fun e2 => ?_)
    · have e2 : (q : Int) < (o.len : Int) := e2
      have hql : q < rows.length := by omega
      refine ⟨⟨Int.natCast_nonneg q, e2⟩, n2.out.arr.at (Int.natCast_nonneg q) e2 rfl fun sl hsl => ?_⟩
      rw [Int.toNat_natCast] at hsl
      have hzq : zss[q]? = some rows[q] := by rw [hp2 q (Nat.le_refl _)]; simp [hql]
      refine iS (n2.row q sl _ hsl hzq) (hrw q _ (by simp [hql])) fun zs h3 n3 pm sr x3 => ?_
      refine hgo2 hql _ _ (w64_up' (n := rows.length) hql (by omega)) ⟨_, n2.inRow hsl n3 x3, by rw [List.length_set]; exact hz, fun j z hj hjz => ?_, fun j hj => ?_⟩
      · by_cases c : j = q
        · subst c
          rw [List.getElem?_set_self (by omega)] at hjz
          cases hjz
          rw [List.getElem?_eq_getElem hql]
          exact ⟨pm, sr⟩
        · rw [List.getElem?_set_ne (fun e => c e.symm)] at hjz
          exact hp1 j z (by omega) hjz
      · rw [List.getElem?_set_ne (by omega)]
        exact hp2 j (by omega)
    · have e2 : ¬ (q : Int) < (o.len : Int) := e2
      exact hQ o els zss k' (n2.base nl.le) hz fun j z hjz => hp1 j z (by have := (List.getElem?_eq_some_iff.1 hjz).1; omega) hjz
end
end Go.Mx
