/-
  The normal form: the program's steps and rows.
  The normal form: the program's rows.
  The normal form: the reference's; the two are the same.
-/
import Derived.Test.YtipihecaaakagaaMxKa
import Derived.Test.YtipihecaaakagaaMxKc
import Derived.Test.YtipihecaaakagaaMxPt
set_option linter.unusedVariables false
set_option linter.unusedSimpArgs false
set_option linter.unusedSectionVars false
namespace Go.Mx

instance (size len kx ax vx ky ay vy : Int) : Decidable (DepI size len kx ax vx ky ay vy) := by unfold DepI Give Touch; infer_instance
abbrev Rc := Den kref22Act
/-- Must the two stay in their order? -/
def bdA (sz len : Int) (a b : Rc) : Bool := decide (a.1 = b.1 ∨ DepI sz len a.2.1.2.1 a.2.1.2.2.1 a.2.1.2.2.2.1 b.2.1.2.1 b.2.1.2.2.1 b.2.1.2.2.2.1)
def toDone (c : Rc × Nat) : Den kexploredone := (c.1.1, ((c.2 : Int) + 1, (c.1.2.1, ())))
theorem stF_take {α : Type} (bd : α → α → Bool) (S : List (α × Nat)) (e : α) {j : Nat} (h : j < S.length) : stF bd (S.take (j + 1)) e = if bd S[j].1 e = true then max (stF bd (S.take j) e) (S[j].2 + 1) else stF bd (S.take j) e := by
  rw [take_succ' S h, stF_snoc]
theorem stF_le {α : Type} (bd : α → α → Bool) (e : α) : ∀ (S : List (α × Nat)) (n : Nat), (∀ c ∈ S, c.2 < n) → stF bd S e ≤ n := by
  intro S n h
  rcases (stF_spec bd e S).2 with h2 | ⟨c, h2, _, h3⟩
  · omega
  · have := h c h2; omega
theorem steps_lt {α : Type} (bd : α → α → Bool) : ∀ (l : List α), ∀ c ∈ steps bd l, c.2 < l.length := by
  intro l
  induction l using rev_ind with
  | nil => intro c hc; cases hc
  | append_singleton l x ih =>
    intro c hc
    rw [steps_snoc] at hc
    rw [List.length_append, List.length_singleton]
    rcases List.mem_append.1 hc with hc | hc
    · have := ih c hc; omega
    · have e : c = (x, stF bd (steps bd l) x) := by simpa using hc
      have := stF_le bd x (steps bd l) l.length ih
      rw [e]; show stF bd (steps bd l) x < _; omega
theorem steps_len {α : Type} (bd : α → α → Bool) (l : List α) : (steps bd l).length = l.length := by
  have := congrArg List.length (steps_fst bd l)
  rwa [List.length_map] at this

section
variable {h : Heap} {s : Sc} {t : Sl} {bs ps : List Int} {xss : List (List Ac)} (r : ScR h s bs xss) (hp : Arr h ki t ps) (hn : ps.length ≤ 1048576) (hc : chkE s.1 bs.length xss = 0) (hS : ScriptP (xss.map List.length) ps)
  {cD : Sc → Ac → Ac → Heap → (Bool → Heap → Prop) → Prop} (iD : ∀ {x y : Ac} {h : Heap} {Q : Bool → Heap → Prop}, (∀ b : Bool, (b = true ↔ DepI s.1 (s.2.1.len : Int) x.2.1 x.2.2.1 x.2.2.2.1 y.2.1 y.2.2.1 y.2.2.2.1) → Q b h) → cD s x y h Q)
include r hp hn hc hS iD
theorem steps_spec' {Q : Sl → Heap → Prop} (hQ : ∀ l h', New h h' kexploredone l ((steps (bdA s.1 (s.2.1.len : Int)) (rowP xss ps ps.length)).map toDone) → Q l h') : explore_steps.M cD s t h Q := by
  obtain ⟨size, bg, lsl, u0⟩ := s
  obtain ⟨r1, sls, r2, r3, r4⟩ := r
  dsimp only at r1 r2
  obtain ⟨_, _, _, hx4, hact, _⟩ := chkE_ok hc
  have hsl : lsl.len = xss.length := by rw [← r3, r2.1]
  have hpl := hp.1
  have hin := hS.1
  rw [List.length_map] at hin
  have hQ : ∀ l h', New h h' kexploredone l ((steps (bdA size (bg.len : Int)) (rowP xss ps ps.length)).map toDone) → Q l h' := hQ
  generalize hbd : bdA size (bg.len : Int) = bd at hQ
  refine make_new (by omega) (Int.le_refl _) (by show ((8 : Nat) : Int) * (lsl.len : Int) ≤ _; omega) (by show (lsl.len : Int) ≤ _; omega) fun nx h1 n1 l1 _ _ => ?_
  rw [Int.toNat_natCast] at n1 l1
  have n1 : New h h1 ki nx (List.replicate lsl.len (0 : Int)) := n1
  have l1 : nx.len = lsl.len := l1
  have hcz : (List.range lsl.len).map (fun i => (cnt (ps.take 0) i : Int)) = List.replicate lsl.len (0 : Int) := by
    apply List.ext_getElem
    · simp
    · intro i _ _; simp [cnt]
  refine Loop.up ps.length (fun s => s.2.1) (fun j st k => ∃ hm, New h hm ki nx ((List.range lsl.len).map fun i => (cnt (ps.take j) i : Int)) ∧ New h k kexploredone st.1 ((steps bd (rowP xss ps j)).map toDone) ∧ New h k ki nx ((List.range lsl.len).map fun i => (cnt (ps.take j) i : Int)) ∧ Apart st.1 nx) rfl
    ⟨h1, by rw [hcz]; exact n1, New.none n1.le _, by rw [hcz]; exact n1, fun b hb => absurd hb no_blk⟩ ?_
  rintro j ⟨l, j', u⟩ k go hj hcc ⟨_, _, n, m, ap⟩ hgo
  dsimp only at hcc n ap; subst hcc
  have hnl := n.len
  rw [List.length_map, steps_len, rowP_len] at hnl
  refine dcs (fun e => ?_) (fun e => ?_)
  · have e : (j : Int) < (t.len : Int) := e
    have hjt : j < ps.length := by omega
    obtain ⟨i, hi⟩ : ∃ i : Nat, ps[j] = (i : Int) := ⟨ps[j].toNat, by have := (hin ps[j] (by simp)).1; omega⟩
    have hil : i < xss.length := by have := (hin ps[j] (by simp)).2; omega
    have hrm := hS.room hjt hi (m := xss[i].length) (by simp [hil])
    have hcm := cnt_le ps j i
    have hsi : sls[i]? = some (sls[i]'(by omega)) := by simp
    have hxi : xss[i]? = some xss[i] := by simp
    have hxr := (r4 i _ _ hsi hxi).le m.le
    have hxl := hxr.1
    have hb0 : (0 : Int) ≤ (j : Int) := by omega
    refine ⟨⟨hb0, e⟩, (hp.le m.le).at hb0 e rfl fun p hp' => ?_⟩
    obtain rfl : ps[j] = p := by simpa [hjt] using hp'
    rw [hi]
    have hbL : (0 : Int) ≤ (i : Int) ∧ (i : Int) < (lsl.len : Int) := by omega
    have hbN : (0 : Int) ≤ (i : Int) ∧ (i : Int) < (nx.len : Int) := by omega
    obtain ⟨an, han⟩ := m.arr.addr (by omega)
    obtain ⟨al, hal⟩ := (r2.le m.le).addr (by omega)
    have hmi : ((List.range lsl.len).map fun i => (cnt (ps.take j) i : Int))[i]? = some (cnt (ps.take j) i : Int) := by rw [List.getElem?_map, List.getElem?_range (by omega)]; rfl
    refine ⟨hbN, ?_⟩
    rw [han]
    simp only [deref]
    refine ⟨hbL, ?_⟩
    show deref lsl.a _
    rw [hal]
    simp only [deref]
    rw [Int.toNat_natCast]
    refine (r2.le m.le).ldAt (k := .sl) hal hsi rfl (m.arr.ldAt (k := ki) han hmi rfl ⟨⟨show (0 : Int) ≤ (cnt (ps.take j) i : Int) by omega, show (cnt (ps.take j) i : Int) < (sls[i].len : Int) by omega⟩, ?_⟩)
    rw [Int.toNat_natCast]
    obtain ⟨ax, hax⟩ := hxr.addr (by omega)
    rw [hax]
    simp only [deref]
    have hxx : xss[i][cnt (ps.take j) i]? = some (xss[i][cnt (ps.take j) i]'hrm) := by simp
    refine hxr.ldAt (k := kapiAct) hax hxx rfl ⟨hbN, m.arr.ldAt (k := ki) han hmi rfl ⟨hbN, ?_⟩⟩
    have wc : w64 ((cnt (ps.take j) i : Int) + 1) = ((cnt (ps.take j) i + 1 : Nat) : Int) := by rw [w64_of] <;> omega
    rw [wc]
    have hset := m.set (i := (i : Int)) hbN.1 hbN.2 (y := ((cnt (ps.take j) i + 1 : Nat) : Int)) rfl (sz := 1) rfl (K := fun h20 => Loop (explore_steps.l3 cD (size, (bg, (lsl, u0))) go (l, ((j : Int), u)) (i : Int)) (0, ((i : Int), (1, xss[i][cnt (ps.take j) i]'hrm)), ()) h20) ?_
    · rw [han, Int.toNat_natCast] at hset; exact hset
    intro h2 m2 x2
    rw [Int.toNat_natCast] at m2
    have hnew : ((List.range lsl.len).map fun i => (cnt (ps.take j) i : Int)).set i ((cnt (ps.take j) i + 1 : Nat) : Int) = (List.range lsl.len).map fun i => (cnt (ps.take (j + 1)) i : Int) := by
      apply List.ext_getElem
      · simp
      · intro i' h1 h2
        rw [List.getElem_set]
        simp only [List.getElem_map, List.getElem_range]
        rw [take_succ' ps hjt, cnt_app, cnt_one, hi]
        by_cases c : i = i'
        · subst c; rw [if_pos rfl, if_pos rfl]
        · rw [if_neg c, if_neg (by omega)]; rfl
    rw [hnew] at m2
    have n2 := n.ext x2 (fun b hb => ap b hb) m.new
    -- the new act
    have hrow : rowE xss ps j = ((i : Int), (xss[i][cnt (ps.take j) i]'hrm, ())) := by
      unfold rowE
      have e1 : (ps[j]?).getD 0 = (i : Int) := by rw [List.getElem?_eq_getElem hjt, hi]; rfl
      rw [e1, Int.toNat_natCast]
      unfold xAt
      rw [hxi]
      show ((i : Int), ((xss[i][cnt (ps.take j) i]?).getD ac0, ())) = _
      rw [hxx]; rfl
    generalize xss[i][cnt (ps.take j) i]'hrm = x at *
    have hSl : (steps bd (rowP xss ps j)).length = j := by rw [steps_len, rowP_len]
    refine Loop.up j (fun s => s.1) (fun q st k' => k' = h2 ∧ st.2.1 = ((i : Int), (((stF bd ((steps bd (rowP xss ps j)).take q) (rowE xss ps j) : Nat) : Int) + 1, x))) rfl ⟨rfl, rfl⟩ ?_
    rintro q ⟨q', d, u2⟩ k' go2 hq hcq ⟨rfl, hd⟩ hgo2
    dsimp only at hcq hd; subst hcq; subst hd
    have hlt2 : ∀ c ∈ (steps bd (rowP xss ps j)).take q, c.2 < j := fun c hc => by
      have := steps_lt bd (rowP xss ps j) c (List.mem_of_mem_take hc)
      rwa [rowP_len] at this
    have hst := stF_le bd (rowE xss ps j) _ j hlt2
    refine dcs (fun e2 => ?_) (fun e2 => ?_)
    · have e2 : (q : Int) < (l.len : Int) := e2
      have hql : q < (steps bd (rowP xss ps j)).length := by omega
      have hqj : q < j := by omega
      have hgq : ((steps bd (rowP xss ps j)).map toDone)[q]? = some (toDone (steps bd (rowP xss ps j))[q]) := by rw [List.getElem?_map]; simp [hql]
      refine ⟨⟨by omega, e2⟩, n2.arr.at (by omega) e2 rfl fun y hy => ?_⟩
      rw [Int.toNat_natCast, hgq] at hy
      have hy := Option.some.inj hy
      subst hy
      have hs1 := stF_take bd (steps bd (rowP xss ps j)) (rowE xss ps j) hql
      have hcl := steps_lt bd (rowP xss ps j) _ (List.getElem_mem hql)
      rw [rowP_len] at hcl
      generalize hcc : (steps bd (rowP xss ps j))[q] = c at *
      have w1 : w64 (((c.2 : Int) + 1) + 1) = (c.2 : Int) + 1 + 1 := by rw [w64_of] <;> omega
      have fin : ∀ b : Bool, (b = true ↔ bd c.1 (rowE xss ps j) = true) → explore_steps.j2 go2 ((q : Int), ((i : Int), (((stF bd ((steps bd (rowP xss ps j)).take q) (rowE xss ps j) : Nat) : Int) + 1, x)), u2) (toDone c) (b, ()) k' := fun b hb => by
        refine bcs (fun z => ?_) (fun z => ?_)
        · have z : b = true := z
          refine hgo2 hqj _ _ (w64_up' (n := j) hqj (by omega)) ⟨rfl, ?_⟩
          rw [hs1, if_pos (hb.1 z)]
          have key : (if ((stF bd ((steps bd (rowP xss ps j)).take q) (rowE xss ps j) : Nat) : Int) + 1 < (c.2 : Int) + 1 + 1 then (c.2 : Int) + 1 + 1 else ((stF bd ((steps bd (rowP xss ps j)).take q) (rowE xss ps j) : Nat) : Int) + 1) = ((max (stF bd ((steps bd (rowP xss ps j)).take q) (rowE xss ps j)) (c.2 + 1) : Nat) : Int) + 1 := by
            split <;> omega
          rw [← key, ← w1]
          rfl
        · have z : b = false := z
          refine hgo2 hqj _ _ (w64_up' (n := j) hqj (by omega)) ⟨rfl, ?_⟩
          rw [hs1, if_neg (fun y => by rw [hb.2 y] at z; cases z)]
      have hbq : ∀ P : Prop, (P ↔ DepI size (bg.len : Int) c.1.2.1.2.1 c.1.2.1.2.2.1 c.1.2.1.2.2.2.1 x.2.1 x.2.2.1 x.2.2.2.1) → (bd c.1 (rowE xss ps j) = true ↔ c.1.1 = (i : Int) ∨ P) := fun P hP => by
        rw [← hbd, hrow]
        show decide (c.1.1 = (i : Int) ∨ DepI size (bg.len : Int) c.1.2.1.2.1 c.1.2.1.2.2.1 c.1.2.1.2.2.2.1 x.2.1 x.2.2.1 x.2.2.2.1) = true ↔ _
        rw [decide_eq_true_eq, hP]
      refine dcs (fun e3 => fin true ⟨fun _ => (hbq _ Iff.rfl).2 (.inl e3), fun _ => rfl⟩) (fun e3 => iD fun b hb => fin b ?_)
      rw [hbq _ hb]
      exact ⟨.inr, fun z => z.resolve_left e3⟩
    · have e2 : ¬ (q : Int) < (l.len : Int) := e2
      obtain rfl : q = j := by omega
      rw [List.take_of_length_le (by omega)]
      have hdn : toDone (rowE xss ps q, stF bd (steps bd (rowP xss ps q)) (rowE xss ps q)) = ((i : Int), (((stF bd (steps bd (rowP xss ps q)) (rowE xss ps q) : Nat) : Int) + 1, (x, ()))) := by
        show ((rowE xss ps q).1, (((stF bd (steps bd (rowP xss ps q)) (rowE xss ps q) : Nat) : Int) + 1, ((rowE xss ps q).2.1, ()))) = _
        rw [show (rowE xss ps q).1 = (i : Int) from by rw [hrow], show (rowE xss ps q).2.1 = x from by rw [hrow]]
      refine n2.app3 (k := kexploredone) (x := ((i : Int), (((stF bd (steps bd (rowP xss ps q)) (rowE xss ps q) : Nat) : Int) + 1, (x, ())))) rfl rfl (show (l.len + 1) * 56 ≤ _ by omega) fun t3 h3 n3 x3 b3 => ?_
      refine hgo hjt _ _ (w64_up' (n := ps.length) hjt (by omega)) ⟨_, m2, ?_, m2.ext x3 (fun b hb hb2 => ap b hb2 hb) n2.new, fun b hb hb2 => ?_⟩
      · rw [rowP_succ, steps_snoc, List.map_append, List.map_singleton, hdn]
        exact n3
      · rcases b3 b hb with z | z
        · exact ap b z hb2
        · exact m2.own.live b hb2 z
  · have e : ¬ (j : Int) < (t.len : Int) := e
    obtain rfl : j = ps.length := by omega
    exact hQ l k n
end
end Go.Mx

namespace Go.Mx

/-- One more empty row. -/
theorem Nest.snil {h0 h : Heap} {k : Kd} {o : Sl} {els : List Sl} {xss : List (List (Den k))} (n : Nest h0 h k o els xss) (hb : (o.len + 1) * 24 ≤ 140737488355328) {K : Sl → Heap → Prop}
    (hK : ∀ t h', Nest h0 h' k t (els ++ [Sl.none]) (xss ++ [[]]) → Step (fpN o els) (fpN t (els ++ [Sl.none])) h h' → K t h') : Go.Mx.new h ([Sl.none].flatMap (Kd.cells .sl)) fun p h1 => appendM 1 24 h1 o ⟨some p, 1, 1⟩ K := by
  obtain ⟨s1, s2⟩ := List.pairwise_cons.1 n.sep
  refine n.out.app3 rfl rfl hb fun t h' n2 x2 b2 => hK t h' ⟨n2, by rw [List.length_append, List.length_append, n.len]; rfl, fun i sl xs a b => ?_, List.pairwise_cons.2 ⟨fun sl hs b hb1 hb2 => ?_, ?_⟩⟩ ⟨x2.mono fun x q => .inl q, fun x q => ?_⟩
  · by_cases c : i < els.length
    · rw [List.getElem?_append_left c] at a
      rw [List.getElem?_append_left (by rw [← n.len]; exact c)] at b
      exact (n.row i sl xs a b).ext x2 (fun z u v => s1 sl (List.mem_of_getElem? a) z v u) n.out.new
    · rw [List.getElem?_append_right (by omega)] at a
      rw [List.getElem?_append_right (by rw [← n.len]; omega)] at b
      have a1 := List.mem_of_getElem? a
      have b1 := List.mem_of_getElem? b
      have a1 : sl = Sl.none := by simpa using a1
      have b1 : xs = [] := by simpa using b1
      subst a1; subst b1
      exact New.none n2.le k
  · rcases List.mem_append.1 hs with hs | hs
    · rcases b2 b hb1 with d | d
      · exact s1 sl hs b d hb2
      · obtain ⟨xs, q⟩ := n.row' hs
        exact q.own.live b hb2 d
    · have : sl = Sl.none := by simpa using hs
      subst this
      exact no_blk hb2
  · rw [List.pairwise_append]
    refine ⟨s2, by simp, fun a _ b hb' x hx hy => ?_⟩
    have : b = Sl.none := by simpa using hb'
    subst this
    exact no_blk hy
  · rcases q with q | ⟨sl, hs, q⟩
    · rcases b2 x q with d | d
      · exact .inl (.inl d)
      · exact .inr d
    · rcases List.mem_append.1 hs with hs | hs
      · exact .inl (.inr ⟨sl, hs, q⟩)
      · have : sl = Sl.none := by simpa using hs
        subst this
        exact absurd q no_blk
/-- A row is written over where it lies. -/
theorem Nest.inRow {h0 h h2 : Heap} {k : Kd} {o : Sl} {els : List Sl} {xss : List (List (Den k))} (n : Nest h0 h k o els xss) {i : Nat} {sl : Sl} {ys : List (Den k)} (hs : els[i]? = some sl) (nt : New h0 h2 k sl ys) (x2 : Ext (blkOf sl) h h2) : Nest h0 h2 k o els (xss.set i ys) := by
  obtain ⟨s1, s2⟩ := List.pairwise_cons.1 n.sep
  have hm : sl ∈ els := List.mem_of_getElem? hs
  obtain ⟨xs0, r0⟩ := n.row' hm
  refine ⟨n.out.ext x2 (fun b x y => s1 sl hm b x y) r0.new, by rw [List.length_set]; exact n.len, fun j sj xs a b => ?_, n.sep⟩
  by_cases c : j = i
  · subst c
    rw [hs] at a; cases a
    rw [List.getElem?_set_self (by rw [← n.len]; exact (List.getElem?_eq_some_iff.1 hs).1)] at b; cases b
    exact nt
  · rw [List.getElem?_set_ne (fun e => c e.symm)] at b
    refine (n.row j sj xs a b).ext x2 (fun z u v => ?_) r0.new
    obtain ⟨hj', rfl⟩ := List.getElem?_eq_some_iff.1 a
    obtain ⟨hi', rfl⟩ := List.getElem?_eq_some_iff.1 hs
    rw [List.pairwise_iff_getElem] at s2
    rcases Nat.lt_or_gt_of_ne c with c | c
    · exact s2 j i hj' hi' c z u v
    · exact s2 i j hi' hj' c z v u

def addR (rows : List (List Int)) (n : Nat) (w : Int) : List (List Int) := (rows ++ List.replicate (n + 1 - rows.length) []).set n (((rows ++ List.replicate (n + 1 - rows.length) [])[n]?).getD [] ++ [w])
def formR (S : List (Rc × Nat)) : List (List Int) := S.foldl (fun rows c => addR rows c.2 c.1.1) []
theorem formR_snoc (S : List (Rc × Nat)) (c : Rc × Nat) : formR (S ++ [c]) = addR (formR S) c.2 c.1.1 := by unfold formR; rw [List.foldl_append]; rfl
theorem addR_len (rows : List (List Int)) (n : Nat) (w : Int) : (addR rows n w).length = max rows.length (n + 1) := by
  unfold addR
  rw [List.length_set, List.length_append, List.length_replicate]; omega
theorem addR_at (rows : List (List Int)) (n : Nat) (w : Int) (i : Nat) : ((addR rows n w)[i]?).getD [] = if i = n then (rows[n]?).getD [] ++ [w] else (rows[i]?).getD [] := by
  have hl : n < (rows ++ List.replicate (n + 1 - rows.length) []).length := by rw [List.length_append, List.length_replicate]; omega
  have hg : ∀ i, ((rows ++ List.replicate (n + 1 - rows.length) [])[i]?).getD [] = (rows[i]?).getD [] := fun i => by
    by_cases c : i < rows.length
    · rw [List.getElem?_append_left c]
    · rw [List.getElem?_append_right (by omega), List.getElem?_eq_none (l := rows) (by omega), List.getElem?_replicate]
      split <;> rfl
  unfold addR
  by_cases c : i = n
  · subst c
    rw [if_pos rfl, List.getElem?_set_self hl, hg]; rfl
  · rw [if_neg c, List.getElem?_set_ne (fun e => c e.symm), hg]
theorem formR_len (S : List (Rc × Nat)) (n : Nat) (h : ∀ c ∈ S, c.2 < n) : (formR S).length ≤ n := by
  induction S using rev_ind with
  | nil => exact Nat.zero_le _
  | append_singleton S c ih =>
    rw [formR_snoc, addR_len]
    have := ih fun d hd => h d (List.mem_append_left _ hd)
    have := h c (by simp)
    omega
theorem formR_row (S : List (Rc × Nat)) (i : Nat) : ((formR S)[i]?).getD [] = (S.filter fun c => decide (c.2 = i)).map fun c => c.1.1 := by
  induction S using rev_ind with
  | nil => rfl
  | append_singleton S c ih =>
    rw [formR_snoc, addR_at, List.filter_append, List.map_append]
    by_cases e : c.2 = i
    · subst e
      rw [if_pos rfl, ih, List.filter_cons_of_pos (by exact decide_eq_true rfl)]; rfl
    · rw [if_neg (fun q => e q.symm), ih, List.filter_cons_of_neg (by simpa using e)]
      simp
theorem formR_rowlen (S : List (Rc × Nat)) {i : Nat} {row : List Int} (h : (formR S)[i]? = some row) : row.length ≤ S.length := by
  have := formR_row S i
  rw [h] at this
  have this : row = (S.filter fun c => decide (c.2 = i)).map fun c => c.1.1 := this
  rw [this, List.length_map]
  exact List.length_filter_le _ _

section
variable {h : Heap} {s : Sc} {t : Sl} {S : List (Rc × Nat)} (hSl : S.length ≤ 12) (hS2 : ∀ c ∈ S, c.2 < 12)
  {cT : Sc → Sl → Heap → (Sl → Heap → Prop) → Prop} {cS : Sl → Heap → (Unit → Heap → Prop) → Prop}
  (iT : ∀ {Q : Sl → Heap → Prop}, (∀ l h', New h h' kexploredone l (S.map toDone) → Q l h') → cT s t h Q)
  (iS : ∀ {sl : Sl} {h0 h : Heap} {ys : List Int} {Q : Unit → Heap → Prop}, New h0 h ki sl ys → ys.length ≤ 12 → (∀ zs h', New h0 h' ki sl zs → zs.Perm ys → zs.Pairwise (· ≤ ·) → Ext (blkOf sl) h h' → Q () h') → cS sl h Q)
include hSl hS2 iT iS
theorem form_spec {Q : Sl → Heap → Prop} (hQ : ∀ o els (zss : List (List Int)) h', Nest h h' ki o els zss → zss.length = (formR S).length → (∀ (i : Nat) (z : List Int), zss[i]? = some z → z.Perm (((formR S)[i]?).getD []) ∧ z.Pairwise (· ≤ ·)) → Q o h') : explore_form.M cT cS s t h Q := by
  refine iT fun l h1 nl => ?_
  have hll := nl.len
  rw [List.length_map] at hll
  have lv := nl.own.live
  refine Loop.up S.length (fun s => s.2.1) (fun i st k => ∃ els, Nest h1 k ki st.1 els (formR (S.take i))) rfl ⟨[], ⟨New.none (le.refl _) _, rfl, fun i sl xs a => (by cases a), List.pairwise_singleton ..⟩⟩ ?_
  rintro i ⟨o, i', u⟩ k go hi hcc ⟨els, n⟩ hgo
  dsimp only at hcc n; subst hcc
  have nlk := nl.more n.le
  refine dcs (fun e => ?_) (fun e => ?_)
  · have e : (i : Int) < (l.len : Int) := e
    have hil : i < S.length := by omega
    refine ⟨⟨Int.natCast_nonneg i, e⟩, nlk.arr.at (by omega) e rfl fun y hy => ?_⟩
    rw [Int.toNat_natCast, List.getElem?_map, List.getElem?_eq_getElem hil] at hy
    have hy := Option.some.inj hy
    subst hy
    have hc2 := hS2 _ (List.getElem_mem hil)
    have hsn : formR (S.take (i + 1)) = addR (formR (S.take i)) S[i].2 S[i].1.1 := by rw [take_succ' S hil, formR_snoc]
    have hrl := formR_len (S.take i) 12 fun c hc => hS2 c (List.mem_of_mem_take hc)
    have hrw : ∀ (j : Nat) (row : List Int), (formR (S.take i))[j]? = some row → row.length ≤ 12 := fun j row hr => by
      have := formR_rowlen _ hr
      rw [List.length_take] at this; omega
    generalize formR (S.take i) = rows at *
    generalize S[i] = c at *
    have hol := n.out.len
    rw [n.len] at hol
    refine Loop.up (c.2 + 1 - rows.length) (fun s => (s.1.len : Int) - (rows.length : Int)) (fun j st k' => ∃ els', Nest h1 k' ki st.1 els' (rows ++ List.replicate j [])) (show (o.len : Int) - (rows.length : Int) = 0 by omega) ⟨els, by simpa using n⟩ ?_
    rintro j ⟨o2, u2⟩ k' go2 hj hcj ⟨els2, n2⟩ hgo2
    dsimp only at hcj n2
    have hol2 := n2.out.len
    have hel2 := n2.len
    rw [List.length_append, List.length_replicate] at hel2
    refine dcs (fun e2 => ?_) (fun e2 => ?_)
    · have e2 : (o2.len : Int) < (c.2 : Int) + 1 := e2
      refine n2.snil (by omega) fun t3 h3 n3 _ => ?_
      have h3l := n3.out.len
      rw [List.length_append, List.length_singleton] at h3l
      refine hgo2 (by omega) _ _ (show (t3.len : Int) - (rows.length : Int) = ((j + 1 : Nat) : Int) by omega) ⟨els2 ++ [Sl.none], ?_⟩
      rw [List.append_assoc, ← List.replicate_succ'] at n3
      exact n3
    · have e2 : ¬ (o2.len : Int) < (c.2 : Int) + 1 := e2
      obtain rfl : j = c.2 + 1 - rows.length := by omega
      have w1 : w64 (((c.2 : Int) + 1) - 1) = (c.2 : Int) := by rw [w64_of] <;> omega
      have hlt : c.2 < els2.length := by omega
      have hb : (0 : Int) ≤ (c.2 : Int) ∧ (c.2 : Int) < (o2.len : Int) := by omega
      rw [show w64 ((toDone c).2.1 - 1) = (c.2 : Int) from w1]
      have hlt2 : c.2 < (rows ++ List.replicate (c.2 + 1 - rows.length) []).length := by rw [List.length_append, List.length_replicate]; omega
      have hrr : (rows ++ List.replicate (c.2 + 1 - rows.length) [])[c.2]? = some ((rows ++ List.replicate (c.2 + 1 - rows.length) [])[c.2]'hlt2) := by simp
      refine ⟨hb, n2.out.arr.at hb.1 hb.2 rfl fun sl hsl => ?_⟩
      rw [Int.toNat_natCast] at hsl
      have nr := n2.row c.2 sl _ hsl hrr
      have nrl := nr.len
      have hrow12 : ((rows ++ List.replicate (c.2 + 1 - rows.length) [])[c.2]'hlt2).length ≤ 12 := by
        by_cases z : c.2 < rows.length
        · exact hrw c.2 _ (by rw [← hrr, List.getElem?_append_left z])
        · have := List.getElem?_append_right (l₁ := rows) (l₂ := List.replicate (c.2 + 1 - rows.length) ([] : List Int)) (i := c.2) (by omega)
          rw [this, List.getElem?_replicate] at hrr
          split at hrr
          · rw [← Option.some.inj hrr]; exact Nat.zero_le _
          · cases hrr
      refine nr.app3 (k := ki) (x := c.1.1) rfl rfl (by omega) fun t3 h3 n3 x3 b3 => ?_
      refine ⟨hb, n2.put rfl hsl n3 x3 b3 rfl fun h4 n4 _ => ?_⟩
      refine hgo hil _ _ (w64_up' (n := S.length) hil (by omega)) ⟨els2.set c.2 t3, ?_⟩
      rw [hsn]
      unfold addR
      rw [hrr]
      exact n4
  · have e : ¬ (i : Int) < (l.len : Int) := e
    obtain rfl : i = S.length := by omega
    rw [List.take_length] at n
    have hrl := formR_len S 12 hS2
    have hrw : ∀ (j : Nat) (row : List Int), (formR S)[j]? = some row → row.length ≤ 12 := fun j row hr => by
      have := formR_rowlen _ hr; omega
    clear hgo
    generalize formR S = rows at *
    have hol := n.out.len
    rw [n.len] at hol
    refine Loop.up rows.length (fun s => s.1) (fun i st k' => ∃ zss : List (List Int), Nest h1 k' ki o els zss ∧ zss.length = rows.length ∧ (∀ (j : Nat) (z : List Int), j < i → zss[j]? = some z → z.Perm ((rows[j]?).getD []) ∧ z.Pairwise (· ≤ ·)) ∧ ∀ j, i ≤ j → zss[j]? = rows[j]?) rfl ⟨rows, n, rfl, fun j z hj => absurd hj (Nat.not_lt_zero _), fun j _ => rfl⟩ ?_
    rintro q ⟨q', u2⟩ k' go2 hq hcq ⟨zss, n2, hz, hp1, hp2⟩ hgo2
    dsimp only at hcq; subst hcq
    have hol2 := n2.out.len
    refine dcs (fun e2 => ?_) (fun e2 => ?_)
    · have e2 : (q : Int) < (o.len : Int) := e2
      have hql : q < rows.length := by omega
      refine ⟨⟨Int.natCast_nonneg q, e2⟩, n2.out.arr.at (Int.natCast_nonneg q) e2 rfl fun sl hsl => ?_⟩
      rw [Int.toNat_natCast] at hsl
      have hzq : zss[q]? = some rows[q] := by rw [hp2 q (Nat.le_refl _)]; simp [hql]
      refine iS (n2.row q sl _ hsl hzq) (hrw q _ (by simp [hql])) fun zs h3 n3 pm sr x3 => ?_
      refine hgo2 hql _ _ (w64_up' (n := rows.length) hql (by omega)) ⟨_, n2.inRow hsl n3 x3, by rw [List.length_set]; exact hz, fun j z hj hjz => ?_, fun j hj => ?_⟩
      · by_cases c : j = q
        · subst c
          rw [List.getElem?_set_self (by omega)] at hjz
          cases hjz
          rw [List.getElem?_eq_getElem hql]
          exact ⟨pm, sr⟩
        · rw [List.getElem?_set_ne (fun e => c e.symm)] at hjz
          exact hp1 j z (by omega) hjz
      · rw [List.getElem?_set_ne (by omega)]
        exact hp2 j (by omega)
    · have e2 : ¬ (q : Int) < (o.len : Int) := e2
      exact hQ o els zss k' (n2.base nl.le) hz fun j z hjz => hp1 j z (by have := (List.getElem?_eq_some_iff.1 hjz).1; omega) hjz
end
end Go.Mx

namespace Go.Mx

/-- Who is at a step, as the acts stand. -/
def rawR (S : List (Rc × Nat)) (n : Nat) : List Int := (S.filter fun c => decide (c.2 = n)).map fun c => c.1.1
def refRow (S : List (Rc × Nat)) (nA n : Nat) : List Int := (List.range nA).flatMap fun w : Nat => (rawR S n).filter fun x => decide (x = (w : Int))
theorem count_flat (L : List Int) (a : Int) : ∀ n : Nat, ((List.range n).flatMap fun w : Nat => L.filter fun x => decide (x = (w : Int))).count a = if 0 ≤ a ∧ a < (n : Int) then L.count a else 0
  | 0 => by
    rw [if_neg (by omega)]; rfl
  | n + 1 => by
    rw [List.range_succ, List.flatMap_append, List.count_append, count_flat L a n]
    have e : ([n].flatMap fun w : Nat => L.filter fun x => decide (x = (w : Int))) = L.filter fun x => decide (x = (n : Int)) := by simp
    rw [e]
    by_cases z : a = (n : Int)
    · subst z
      rw [if_neg (by omega), if_pos (by omega), Nat.zero_add, List.count_filter (by simp)]
    · have h0 : (L.filter fun x => decide (x = (n : Int))).count a = 0 := by
        rw [List.count_eq_zero]
        intro h
        exact z (of_decide_eq_true (List.mem_filter.1 h).2)
      rw [h0, Nat.add_zero]
      by_cases y : 0 ≤ a ∧ a < (n : Int)
      · rw [if_pos y, if_pos (by omega)]
      · rw [if_neg y, if_neg (by omega)]
theorem refRow_perm {S : List (Rc × Nat)} {nA : Nat} (h : ∀ c ∈ S, 0 ≤ c.1.1 ∧ c.1.1 < (nA : Int)) (n : Nat) : (refRow S nA n).Perm (rawR S n) := by
  rw [List.perm_iff_count]
  intro a
  unfold refRow
  rw [count_flat]
  by_cases z : 0 ≤ a ∧ a < (nA : Int)
  · rw [if_pos z]
  · rw [if_neg z]
    symm
    rw [List.count_eq_zero]
    intro hm
    obtain ⟨c, hc, rfl⟩ := List.mem_map.1 hm
    exact z (h c (List.mem_filter.1 hc).1)
theorem refRow_sort (S : List (Rc × Nat)) (nA n : Nat) : (refRow S nA n).Pairwise (· ≤ ·) := by
  unfold refRow
  rw [List.pairwise_flatMap]
  refine ⟨fun w _ => ?_, List.pairwise_lt_range.imp fun {a b} h x hx y hy => ?_⟩
  · rw [List.pairwise_iff_getElem]
    intro i j hi hj _
    have h1 := of_decide_eq_true (List.mem_filter.1 (List.getElem_mem hi)).2
    have h2 := of_decide_eq_true (List.mem_filter.1 (List.getElem_mem hj)).2
    omega
  · have h1 := of_decide_eq_true (List.mem_filter.1 hx).2
    have h2 := of_decide_eq_true (List.mem_filter.1 hy).2
    omega
theorem sorted_one {a b : List Int} (h : a.Perm b) (ha : a.Pairwise (· ≤ ·)) (hb : b.Pairwise (· ≤ ·)) : a = b :=
  List.Perm.eq_of_pairwise (le := (· ≤ ·)) (fun x y _ _ h1 h2 => by omega) ha hb h
theorem formR_lt (S : List (Rc × Nat)) : ∀ c ∈ S, c.2 < (formR S).length := by
  induction S using rev_ind with
  | nil => intro c hc; cases hc
  | append_singleton S d ih =>
    intro c hc
    rw [formR_snoc, addR_len]
    rcases List.mem_append.1 hc with hc | hc
    · have := ih c hc; omega
    · have : c = d := by simpa using hc
      rw [this]; omega
/-- The program's rows are the reference's. -/
theorem rows_eq {S : List (Rc × Nat)} {nA : Nat} (h : ∀ c ∈ S, 0 ≤ c.1.1 ∧ c.1.1 < (nA : Int)) {zss : List (List Int)} (hl : zss.length = (formR S).length) (hz : ∀ (i : Nat) (z : List Int), zss[i]? = some z → z.Perm (((formR S)[i]?).getD []) ∧ z.Pairwise (· ≤ ·)) : zss = (List.range (formR S).length).map (refRow S nA) := by
  apply List.ext_getElem
  · simp [hl]
  · intro i h1 h2
    obtain ⟨p, q⟩ := hz i zss[i] (by simp)
    rw [formR_row] at p
    rw [List.getElem_map, List.getElem_range]
    exact sorted_one (p.trans (refRow_perm h i).symm) q (refRow_sort S nA i)
theorem rawR_snoc (S : List (Rc × Nat)) (c : Rc × Nat) (n : Nat) (w : Int) : (rawR (S ++ [c]) n).filter (fun x => decide (x = w)) = (rawR S n).filter (fun x => decide (x = w)) ++ if c.2 = n ∧ c.1.1 = w then [w] else [] := by
  unfold rawR
  rw [List.filter_append, List.map_append, List.filter_append]
  congr 1
  by_cases z : c.2 = n
  · rw [List.filter_cons_of_pos (by exact decide_eq_true z), List.filter_nil, List.map_singleton]
    by_cases y : c.1.1 = w
    · rw [List.filter_cons_of_pos (by exact decide_eq_true y), if_pos ⟨z, y⟩, y]; rfl
    · rw [List.filter_cons_of_neg (by simpa using y), if_neg (fun q => y q.2)]; rfl
  · rw [List.filter_cons_of_neg (by simpa using z), if_neg (fun q => z q.1)]; rfl

def Zs (S : List (Rc × Nat)) (nA m n : Nat) (part : List Int) : List (List Int) := (List.range m).map fun j => if j < n then refRow S nA j else if j = n then part else []
theorem Zs_len (S : List (Rc × Nat)) (nA m n : Nat) (part : List Int) : (Zs S nA m n part).length = m := by simp [Zs]
theorem Zs_at {S : List (Rc × Nat)} {nA m n : Nat} {part : List Int} (h : n < m) : (Zs S nA m n part)[n]? = some part := by
  unfold Zs
  rw [List.getElem?_map, List.getElem?_range h]
  simp
theorem Zs_get (S : List (Rc × Nat)) (nA m n : Nat) (part : List Int) (i : Nat) : (Zs S nA m n part)[i]? = if i < m then some (if i < n then refRow S nA i else if i = n then part else []) else none := by
  unfold Zs
  rw [List.getElem?_map]
  by_cases c : i < m
  · rw [if_pos c, List.getElem?_range c]; rfl
  · rw [if_neg c, List.getElem?_eq_none (by simpa using c)]; rfl
theorem Zs_set {S : List (Rc × Nat)} {nA m n : Nat} {part part' : List Int} (h : n < m) : (Zs S nA m n part).set n part' = Zs S nA m n part' := by
  apply List.ext_getElem?
  intro i
  rw [List.getElem?_set, Zs_len, Zs_get, Zs_get]
  by_cases c : n = i
  · subst c
    rw [if_pos rfl, if_pos h, if_pos h, if_neg (Nat.lt_irrefl n), if_pos rfl]
  · rw [if_neg c]
    by_cases d : i < m
    · rw [if_pos d, if_pos d]
      by_cases e : i < n
      · rw [if_pos e, if_pos e]
      · rw [if_neg e, if_neg e, if_neg (fun q => c q.symm), if_neg (fun q => c q.symm)]
    · rw [if_neg d, if_neg d]
theorem Zs_next {S : List (Rc × Nat)} {nA m n : Nat} : Zs S nA m n (refRow S nA n) = Zs S nA m (n + 1) [] := by
  unfold Zs
  refine List.map_congr_left fun j _ => ?_
  by_cases c : j < n
  · rw [if_pos c, if_pos (by omega)]
  · rw [if_neg c]
    by_cases d : j = n
    · subst d; rw [if_pos rfl, if_pos (by omega)]
    · rw [if_neg d, if_neg (by omega)]
      by_cases e : j = n + 1
      · rw [if_pos e]
      · rw [if_neg e]


section
variable {h0 h : Heap} {sc : Sc} {l : List Rc} {rl : Sl} (nl : New h0 h kref22Act rl l) (hl : l.length ≤ 12) (hA : sc.2.2.1.len ≤ 4)
  {cB : Sc → Rc → Rc → Heap → (Bool → Heap → Prop) → Prop}
  (iB : ∀ {a b : Rc} {h : Heap} {Q : Bool → Heap → Prop}, Q (bdA sc.1 (sc.2.1.len : Int) a b) h → cB sc a b h Q)
include nl hl hA iB
end
end Go.Mx
