/-
  Slices of slices, all of one's own.
-/
import Derived.Test.YtppehoailhjdfaaMxAr
set_option linter.unusedVariables false
set_option linter.unusedSimpArgs false
namespace Go.Mx

structure Nest (h0 h : Heap) (k : Kd) (o : Sl) (els : List Sl) (xss : List (List (Den k))) : Prop where
  out : New h0 h .sl o els
  len : els.length = xss.length
  row : ∀ (i : Nat) sl xs, els[i]? = some sl → xss[i]? = some xs → New h0 h k sl xs
  sep : List.Pairwise Apart (o :: els)
def fpN (o : Sl) (els : List Sl) : Nat → Prop := fun x => blkOf o x ∨ ∃ sl ∈ els, blkOf sl x

theorem Nest.le {h0 h k o els xss} (n : Nest h0 h k o els xss) : Go.Mx.le h0 h := n.out.le
theorem Nest.row' {h0 h k o els xss} (n : Nest h0 h k o els xss) {sl : Sl} (hs : sl ∈ els) : ∃ xs, New h0 h k sl xs := by
  obtain ⟨i, e⟩ := List.mem_iff_getElem?.1 hs
  have hi : i < xss.length := by rw [← n.len]; exact (List.getElem?_eq_some_iff.1 e).1
  exact ⟨xss[i], n.row i sl _ e (by simp)⟩
theorem Nest.live {h0 h k o els xss} (n : Nest h0 h k o els xss) {x : Nat} (hx : fpN o els x) : h x ≠ none := by
  rcases hx with hx | ⟨sl, hs, hx⟩
  · exact n.out.own.live x hx
  · obtain ⟨xs, q⟩ := n.row' hs
    exact q.own.live x hx
theorem Nest.fresh {h0 h k o els xss} (n : Nest h0 h k o els xss) {x : Nat} (hx : fpN o els x) : h0 x = none := by
  rcases hx with hx | ⟨sl, hs, hx⟩
  · exact n.out.new x hx
  · obtain ⟨xs, q⟩ := n.row' hs
    exact q.new x hx
theorem Nest.ext {h0 h h' k o els xss} (n : Nest h0 h k o els xss) {S : Nat → Prop} (e : Ext S h h') (d : ∀ x, fpN o els x → ¬ S x) (f : ∀ x, S x → h0 x = none) : Nest h0 h' k o els xss :=
  ⟨n.out.ext e (fun x p => d x (.inl p)) f, n.len, fun i sl xs a b => (n.row i sl xs a b).ext e (fun x p => d x (.inr ⟨sl, List.mem_of_getElem? a, p⟩)) f, n.sep⟩
theorem Nest.more {h0 h h' k o els xss} (n : Nest h0 h k o els xss) (e : Go.Mx.le h h') : Nest h0 h' k o els xss :=
  ⟨n.out.more e, n.len, fun i sl xs a b => (n.row i sl xs a b).more e, n.sep⟩
theorem Nest.base {h0 h1 h k o els xss} (n : Nest h1 h k o els xss) (e : Go.Mx.le h0 h1) : Nest h0 h k o els xss :=
  ⟨n.out.base e, n.len, fun i sl xs a b => (n.row i sl xs a b).base e, n.sep⟩

theorem no_blk {x : Nat} : ¬ blkOf Sl.none x := fun h => by obtain ⟨a, e, _⟩ := h; cases e
theorem New.none {h0 h : Heap} (l : Go.Mx.le h0 h) (k : Kd) : New h0 h k ⟨none, 0, 0⟩ [] := ⟨Own.nil _ _, rfl, l, fun x hx => by obtain ⟨a, e, _⟩ := hx; cases e⟩
theorem Nest.init {h0 h : Heap} {k : Kd} {o : Sl} {n : Nat} (q : New h0 h .sl o (List.replicate n Sl.none)) : Nest h0 h k o (List.replicate n Sl.none) (List.replicate n []) := by
  refine ⟨q, by simp, fun i sl xs a b => ?_, List.pairwise_cons.2 ⟨fun x hx b _ y => ?_, ?_⟩⟩
  · have a := List.eq_of_mem_replicate (List.mem_of_getElem? a)
    have b := List.eq_of_mem_replicate (List.mem_of_getElem? b)
    subst a; subst b
    exact New.none q.le k
  · rw [List.eq_of_mem_replicate hx] at y; exact no_blk y
  · rw [List.pairwise_iff_getElem]
    intro i j hi hj _ b x y
    rw [List.getElem_replicate] at y
    exact no_blk y

/-- A row is put in the place of another. -/
theorem Nest.put {h0 h h2 : Heap} {k : Kd} {o : Sl} {els : List Sl} {xss : List (List (Den k))} (n : Nest h0 h k o els xss) {p : Int} {i : Nat} (hp : p = (i : Int)) {sl t : Sl} {ys : List (Den k)} (hs : els[i]? = some sl)
    (nt : New h0 h2 k t ys) (x2 : Ext (blkOf sl) h h2) (b2 : ∀ b, blkOf t b → blkOf sl b ∨ h b = none) {sz : Nat} (hsz : sz = Kd.size .sl) {K : Heap → Prop}
    (hK : ∀ h3, Nest h0 h3 k o (els.set i t) (xss.set i ys) → Step (fpN o els) (fpN o (els.set i t)) h h3 → K h3) :
    deref o.a fun a => Go.Mx.st .sl h2 (a.add (p.toNat * sz)) t K := by
  subst hp
  obtain ⟨s1, s2⟩ := List.pairwise_cons.1 n.sep
  have hi : i < els.length := (List.getElem?_eq_some_iff.1 hs).1
  have hm : sl ∈ els := List.mem_of_getElem? hs
  obtain ⟨xs0, r0⟩ := n.row' hm
  have out2 := n.out.ext x2 (fun b x y => s1 sl hm b x y) r0.new
  have ol := n.out.len
  refine out2.set (Int.natCast_nonneg i) (by omega) rfl hsz fun h3 n3 x3 => ?_
  rw [Int.toNat_natCast] at n3
  have ot : ∀ b, blkOf t b → ¬ blkOf o b := fun b x y => by
    rcases b2 b x with d | d
    · exact s1 sl hm b y d
    · exact n.out.own.live b y d
  have sp : ∀ (j : Nat) sj, els[j]? = some sj → j ≠ i → Apart t sj := fun j sj hj hji b x y => by
    rcases b2 b x with d | d
    · obtain ⟨hj', rfl⟩ := List.getElem?_eq_some_iff.1 hj
      obtain ⟨hi', rfl⟩ := List.getElem?_eq_some_iff.1 hs
      rw [List.pairwise_iff_getElem] at s2
      rcases Nat.lt_or_gt_of_ne hji with c | c
      · exact s2 j i hj' hi' c b y d
      · exact s2 i j hi' hj' c b d y
    · obtain ⟨xs, q⟩ := n.row' (List.mem_of_getElem? hj)
      exact q.own.live b y d
  refine hK h3 ⟨n3, by rw [List.length_set, List.length_set]; exact n.len, fun j sj xs a b => ?_, List.pairwise_cons.2 ⟨fun s hs' => ?_, ?_⟩⟩ ⟨(x2.mono (fun x q => .inr ⟨sl, hm, q⟩)).trans (x3.mono (fun x q => .inl q)), fun x q => ?_⟩
  · by_cases c : j = i
    · subst c
      rw [List.getElem?_set_self hi] at a; cases a
      rw [List.getElem?_set_self (by rw [← n.len]; exact hi)] at b; cases b
      exact nt.ext x3 ot out2.new
    · rw [List.getElem?_set_ne (fun e => c e.symm)] at a b
      have q := n.row j sj xs a b
      refine (q.ext x2 (fun z u v => ?_) r0.new).ext x3 (fun z u v => s1 sj (List.mem_of_getElem? a) z v u) out2.new
      obtain ⟨hj', rfl⟩ := List.getElem?_eq_some_iff.1 a
      obtain ⟨hi', rfl⟩ := List.getElem?_eq_some_iff.1 hs
      rw [List.pairwise_iff_getElem] at s2
      rcases Nat.lt_or_gt_of_ne c with c | c
      · exact s2 j i hj' hi' c z u v
      · exact s2 i j hi' hj' c z v u
  · obtain ⟨j, hj⟩ := List.mem_iff_getElem?.1 hs'
    by_cases c : i = j
    · subst c
      rw [List.getElem?_set_self hi] at hj; cases hj
      exact fun b x y => ot b y x
    · rw [List.getElem?_set_ne c] at hj
      exact s1 s (List.mem_of_getElem? hj)
  · rw [List.pairwise_iff_getElem]
    intro a b ha hb hab
    rw [List.length_set] at ha hb
    rw [List.getElem_set, List.getElem_set]
    by_cases ca : i = a
    · rw [if_pos ca, if_neg (by omega)]
      exact sp b _ (by simp) (by omega)
    · rw [if_neg ca]
      by_cases cb : i = b
      · rw [if_pos cb]
        exact (sp a _ (by simp) (by omega)).symm
      · rw [if_neg cb]
        rw [List.pairwise_iff_getElem] at s2
        exact s2 a b ha hb hab
  · rcases q with q | ⟨s, hs', q⟩
    · exact .inl (.inl q)
    · obtain ⟨j, hj⟩ := List.mem_iff_getElem?.1 hs'
      by_cases c : i = j
      · subst c
        rw [List.getElem?_set_self hi] at hj; cases hj
        rcases b2 x q with d | d
        · exact .inl (.inr ⟨sl, hm, d⟩)
        · exact .inr d
      · rw [List.getElem?_set_ne c] at hj
        exact .inl (.inr ⟨s, List.mem_of_getElem? hj, q⟩)

end Go.Mx
