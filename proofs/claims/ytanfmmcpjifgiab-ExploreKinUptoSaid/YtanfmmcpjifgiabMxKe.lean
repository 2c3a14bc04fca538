/-
  The normal form: the program's rows.
-/
import Derived.Test.YtanfmmcpjifgiabMxKd
set_option linter.unusedVariables false
set_option linter.unusedSimpArgs false
set_option linter.unusedSectionVars false
namespace Go.Mx

/-- One more empty row. -/
theorem Nest.snil {h0 h : Heap} {k : Kd} {o : Sl} {els : List Sl} {xss : List (List (Den k))} (n : Nest h0 h k o els xss) (hb : (o.len + 1) * 24 ≤ 140737488355328) {K : Sl → Heap → Prop}
    (hK : ∀ t h', Nest h0 h' k t (els ++ [Sl.none]) (xss ++ [[]]) → Step (fpN o els) (fpN t (els ++ [Sl.none])) h h' → K t h') : Go.Mx.new h ([Sl.none].flatMap (Kd.cells .sl)) fun p h1 => appendM 1 24 h1 o ⟨some p, 1, 1⟩ K := by
  obtain ⟨s1, s2⟩ := List.pairwise_cons.1 n.sep
  refine n.out.app3 rfl rfl hb fun t h' n2 x2 b2 => hK t h' ⟨n2, by rw [List.length_append, List.length_append, n.len]; rfl, fun i sl xs a b => ?_, List.pairwise_cons.2 ⟨fun sl hs b hb1 hb2 => ?_, ?_⟩⟩ ⟨x2.mono fun x q => .inl q, fun x q => ?_⟩
  · by_cases c : i < els.length
    · rw [List.getElem?_append_left c] at a
      rw [List.getElem?_append_left (by rw [← n.len]; exact c)] at b
      exact (n.row i sl xs a b).ext x2 (fun z u v => s1 sl (List.mem_of_getElem? a) z v u) n.out.new
    · rw [List.getElem?_append_right (by omega)] at a
      rw [List.getElem?_append_right (by rw [← n.len]; omega)] at b
      have a1 := List.mem_of_getElem? a
      have b1 := List.mem_of_getElem? b
      have a1 : sl = Sl.none := by simpa using a1
      have b1 : xs = [] := by simpa using b1
      subst a1; subst b1
      exact New.none n2.le k
  · rcases List.mem_append.1 hs with hs | hs
    · rcases b2 b hb1 with d | d
      · exact s1 sl hs b d hb2
      · obtain ⟨xs, q⟩ := n.row' hs
        exact q.own.live b hb2 d
    · have : sl = Sl.none := by simpa using hs
      subst this
      exact no_blk hb2
  · rw [List.pairwise_append]
    refine ⟨s2, by simp, fun a _ b hb' x hx hy => ?_⟩
    have : b = Sl.none := by simpa using hb'
    subst this
    exact no_blk hy
  · rcases q with q | ⟨sl, hs, q⟩
    · rcases b2 x q with d | d
      · exact .inl (.inl d)
      · exact .inr d
    · rcases List.mem_append.1 hs with hs | hs
      · exact .inl (.inr ⟨sl, hs, q⟩)
      · have : sl = Sl.none := by simpa using hs
        subst this
        exact absurd q no_blk
/-- A row is written over where it lies. -/
theorem Nest.inRow {h0 h h2 : Heap} {k : Kd} {o : Sl} {els : List Sl} {xss : List (List (Den k))} (n : Nest h0 h k o els xss) {i : Nat} {sl : Sl} {ys : List (Den k)} (hs : els[i]? = some sl) (nt : New h0 h2 k sl ys) (x2 : Ext (blkOf sl) h h2) : Nest h0 h2 k o els (xss.set i ys) := by
  obtain ⟨s1, s2⟩ := List.pairwise_cons.1 n.sep
  have hm : sl ∈ els := List.mem_of_getElem? hs
  obtain ⟨xs0, r0⟩ := n.row' hm
  refine ⟨n.out.ext x2 (fun b x y => s1 sl hm b x y) r0.new, by rw [List.length_set]; exact n.len, fun j sj xs a b => ?_, n.sep⟩
  by_cases c : j = i
  · subst c
    rw [hs] at a; cases a
    rw [List.getElem?_set_self (by rw [← n.len]; exact (List.getElem?_eq_some_iff.1 hs).1)] at b; cases b
    exact nt
  · rw [List.getElem?_set_ne (fun e => c e.symm)] at b
    refine (n.row j sj xs a b).ext x2 (fun z u v => ?_) r0.new
    obtain ⟨hj', rfl⟩ := List.getElem?_eq_some_iff.1 a
    obtain ⟨hi', rfl⟩ := List.getElem?_eq_some_iff.1 hs
    rw [List.pairwise_iff_getElem] at s2
    rcases Nat.lt_or_gt_of_ne c with c | c
    · exact s2 j i hj' hi' c z u v
    · exact s2 i j hi' hj' c z v u

def addR (rows : List (List Int)) (n : Nat) (w : Int) : List (List Int) := (rows ++ List.replicate (n + 1 - rows.length) []).set n (((rows ++ List.replicate (n + 1 - rows.length) [])[n]?).getD [] ++ [w])
def formR (S : List (Rc × Nat)) : List (List Int) := S.foldl (fun rows c => addR rows c.2 c.1.1) []
theorem formR_snoc (S : List (Rc × Nat)) (c : Rc × Nat) : formR (S ++ [c]) = addR (formR S) c.2 c.1.1 := by unfold formR; rw [List.foldl_append]; rfl
theorem addR_len (rows : List (List Int)) (n : Nat) (w : Int) : (addR rows n w).length = max rows.length (n + 1) := by
  unfold addR
  rw [List.length_set, List.length_append, List.length_replicate]; omega
theorem addR_at (rows : List (List Int)) (n : Nat) (w : Int) (i : Nat) : ((addR rows n w)[i]?).getD [] = if i = n then (rows[n]?).getD [] ++ [w] else (rows[i]?).getD [] := by
  have hl : n < (rows ++ List.replicate (n + 1 - rows.length) []).length := by rw [List.length_append, List.length_replicate]; omega
  have hg : ∀ i, ((rows ++ List.replicate (n + 1 - rows.length) [])[i]?).getD [] = (rows[i]?).getD [] := fun i => by
    by_cases c : i < rows.length
    · rw [List.getElem?_append_left c]
    · rw [List.getElem?_append_right (by omega), List.getElem?_eq_none (l := rows) (by omega), List.getElem?_replicate]
      split <;> rfl
  unfold addR
  by_cases c : i = n
  · subst c
    rw [if_pos rfl, List.getElem?_set_self hl, hg]; rfl
  · rw [if_neg c, List.getElem?_set_ne (fun e => c e.symm), hg]
theorem formR_len (S : List (Rc × Nat)) (n : Nat) (h : ∀ c ∈ S, c.2 < n) : (formR S).length ≤ n := by
  induction S using rev_ind with
  | nil => exact Nat.zero_le _
  | append_singleton S c ih =>
    rw [formR_snoc, addR_len]
    have := ih fun d hd => h d (List.mem_append_left _ hd)
    have := h c (by simp)
    omega
theorem formR_row (S : List (Rc × Nat)) (i : Nat) : ((formR S)[i]?).getD [] = (S.filter fun c => decide (c.2 = i)).map fun c => c.1.1 := by
  induction S using rev_ind with
  | nil => rfl
  | append_singleton S c ih =>
    rw [formR_snoc, addR_at, List.filter_append, List.map_append]
    by_cases e : c.2 = i
    · subst e
      rw [if_pos rfl, ih, List.filter_cons_of_pos (by exact decide_eq_true rfl)]; rfl
    · rw [if_neg (fun q => e q.symm), ih, List.filter_cons_of_neg (by simpa using e)]
      simp
theorem formR_rowlen (S : List (Rc × Nat)) {i : Nat} {row : List Int} (h : (formR S)[i]? = some row) : row.length ≤ S.length := by
  have := formR_row S i
  rw [h] at this
  have this : row = (S.filter fun c => decide (c.2 = i)).map fun c => c.1.1 := this
  rw [this, List.length_map]
  exact List.length_filter_le _ _

section
variable {h : Heap} {s : Sc} {t : Sl} {S : List (Rc × Nat)} (hSl : S.length ≤ 12) (hS2 : ∀ c ∈ S, c.2 < 12)
  {cT : Sc → Sl → Heap → (Sl → Heap → Prop) → Prop} {cS : Sl → Heap → (Unit → Heap → Prop) → Prop}
  (iT : ∀ {Q : Sl → Heap → Prop}, (∀ l h', New h h' kexploredone l (S.map toDone) → Q l h') → cT s t h Q)
  (iS : ∀ {sl : Sl} {h0 h : Heap} {ys : List Int} {Q : Unit → Heap → Prop}, New h0 h ki sl ys → ys.length ≤ 12 → (∀ zs h', New h0 h' ki sl zs → zs.Perm ys → zs.Pairwise (· ≤ ·) → Ext (blkOf sl) h h' → Q () h') → cS sl h Q)
include hSl hS2 iT iS
end
end Go.Mx
