/-
  The normal form: the program's steps and rows.
-/
import Derived.Test.YtanfmmcpjifgiabMxKb
import Derived.Test.YtanfmmcpjifgiabMxKc
import Derived.Test.YtanfmmcpjifgiabMxPt
set_option linter.unusedVariables false
set_option linter.unusedSimpArgs false
set_option linter.unusedSectionVars false
namespace Go.Mx

instance (size len kx ax vx ky ay vy : Int) : Decidable (DepI size len kx ax vx ky ay vy) := by unfold DepI Give Touch; infer_instance
abbrev Rc := Den kref22Act
/-- Must the two stay in their order? -/
def bdA (sz len : Int) (a b : Rc) : Bool := decide (a.1 = b.1 ∨ DepI sz len a.2.1.2.1 a.2.1.2.2.1 a.2.1.2.2.2.1 b.2.1.2.1 b.2.1.2.2.1 b.2.1.2.2.2.1)
def toDone (c : Rc × Nat) : Den kexploredone := (c.1.1, ((c.2 : Int) + 1, (c.1.2.1, ())))
theorem stF_take {α : Type} (bd : α → α → Bool) (S : List (α × Nat)) (e : α) {j : Nat} (h : j < S.length) : stF bd (S.take (j + 1)) e = if bd S[j].1 e = true then max (stF bd (S.take j) e) (S[j].2 + 1) else stF bd (S.take j) e := by
  rw [take_succ' S h, stF_snoc]
theorem stF_le {α : Type} (bd : α → α → Bool) (e : α) : ∀ (S : List (α × Nat)) (n : Nat), (∀ c ∈ S, c.2 < n) → stF bd S e ≤ n := by
  intro S n h
  rcases (stF_spec bd e S).2 with h2 | ⟨c, h2, _, h3⟩
  · omega
  · have := h c h2; omega
theorem steps_lt {α : Type} (bd : α → α → Bool) : ∀ (l : List α), ∀ c ∈ steps bd l, c.2 < l.length := by
  intro l
  induction l using rev_ind with
  | nil => intro c hc; cases hc
  | append_singleton l x ih =>
    intro c hc
    rw [steps_snoc] at hc
    rw [List.length_append, List.length_singleton]
    rcases List.mem_append.1 hc with hc | hc
    · have := ih c hc; omega
    · have e : c = (x, stF bd (steps bd l) x) := by simpa using hc
      have := stF_le bd x (steps bd l) l.length ih
      rw [e]; show stF bd (steps bd l) x < _; omega
theorem steps_len {α : Type} (bd : α → α → Bool) (l : List α) : (steps bd l).length = l.length := by
  have := congrArg List.length (steps_fst bd l)
  rwa [List.length_map] at this

section
variable {h : Heap} {s : Sc} {t : Sl} {bs ps : List Int} {xss : List (List Ac)} (r : ScR h s bs xss) (hp : Arr h ki t ps) (hn : ps.length ≤ 1048576) (hc : chkE s.1 bs.length xss = 0) (hS : ScriptP (xss.map List.length) ps)
  {cD : Sc → Ac → Ac → Heap → (Bool → Heap → Prop) → Prop} (iD : ∀ {x y : Ac} {h : Heap} {Q : Bool → Heap → Prop}, (∀ b : Bool, (b = true ↔ DepI s.1 (s.2.1.len : Int) x.2.1 x.2.2.1 x.2.2.2.1 y.2.1 y.2.2.1 y.2.2.2.1) → Q b h) → cD s x y h Q)
include r hp hn hc hS iD
theorem steps_spec' {Q : Sl → Heap → Prop} (hQ : ∀ l h', New h h' kexploredone l ((steps (bdA s.1 (s.2.1.len : Int)) (rowP xss ps ps.length)).map toDone) → Q l h') : explore_steps.M cD s t h Q := by
  obtain ⟨size, bg, lsl, u0⟩ := s
  obtain ⟨r1, sls, r2, r3, r4⟩ := r
  dsimp only at r1 r2
  obtain ⟨_, _, _, hx4, hact, _⟩ := chkE_ok hc
  have hsl : lsl.len = xss.length := by rw [← r3, r2.1]
  have hpl := hp.1
  have hin := hS.1
  rw [List.length_map] at hin
  have hQ : ∀ l h', New h h' kexploredone l ((steps (bdA size (bg.len : Int)) (rowP xss ps ps.length)).map toDone) → Q l h' := hQ
  generalize hbd : bdA size (bg.len : Int) = bd at hQ
  refine make_new (by omega) (Int.le_refl _) (by show ((8 : Nat) : Int) * (lsl.len : Int) ≤ _; omega) (by show (lsl.len : Int) ≤ _; omega) fun nx h1 n1 l1 _ _ => ?_
  rw [Int.toNat_natCast] at n1 l1
  have n1 : New h h1 ki nx (List.replicate lsl.len (0 : Int)) := n1
  have l1 : nx.len = lsl.len := l1
  have hcz : (List.range lsl.len).map (fun i => (cnt (ps.take 0) i : Int)) = List.replicate lsl.len (0 : Int) := by
    apply List.ext_getElem
    · simp
    · intro i _ _; simp [cnt]
  refine Loop.up ps.length (fun s => s.2.1) (fun j st k => ∃ hm, New h hm ki nx ((List.range lsl.len).map fun i => (cnt (ps.take j) i : Int)) ∧ New h k kexploredone st.1 ((steps bd (rowP xss ps j)).map toDone) ∧ New h k ki nx ((List.range lsl.len).map fun i => (cnt (ps.take j) i : Int)) ∧ Apart st.1 nx) rfl
    ⟨h1, by rw [hcz]; exact n1, New.none n1.le _, by rw [hcz]; exact n1, fun b hb => absurd hb no_blk⟩ ?_
  rintro j ⟨l, j', u⟩ k go hj hcc ⟨_, _, n, m, ap⟩ hgo
  dsimp only at hcc n ap; subst hcc
  have hnl := n.len
  rw [List.length_map, steps_len, rowP_len] at hnl
  refine dcs (fun e => ?_) (fun e => ?_)
  · have e : (j : Int) < (t.len : Int) := e
    have hjt : j < ps.length := by omega
    obtain ⟨i, hi⟩ : ∃ i : Nat, ps[j] = (i : Int) := ⟨ps[j].toNat, by have := (hin ps[j] (by simp)).1; omega⟩
    have hil : i < xss.length := by have := (hin ps[j] (by simp)).2; omega
    have hrm := hS.room hjt hi (m := xss[i].length) (by simp [hil])
    have hcm := cnt_le ps j i
    have hsi : sls[i]? = some (sls[i]'(by omega)) := by simp
    have hxi : xss[i]? = some xss[i] := by simp
    have hxr := (r4 i _ _ hsi hxi).le m.le
    have hxl := hxr.1
    have hb0 : (0 : Int) ≤ (j : Int) := by omega
    refine ⟨⟨hb0, e⟩, (hp.le m.le).at hb0 e rfl fun p hp' => ?_⟩
    obtain rfl : ps[j] = p := by simpa [hjt] using hp'
    rw [hi]
    have hbL : (0 : Int) ≤ (i : Int) ∧ (i : Int) < (lsl.len : Int) := by omega
    have hbN : (0 : Int) ≤ (i : Int) ∧ (i : Int) < (nx.len : Int) := by omega
    obtain ⟨an, han⟩ := m.arr.addr (by omega)
    obtain ⟨al, hal⟩ := (r2.le m.le).addr (by omega)
    have hmi : ((List.range lsl.len).map fun i => (cnt (ps.take j) i : Int))[i]? = some (cnt (ps.take j) i : Int) := by rw [List.getElem?_map, List.getElem?_range (by omega)]; rfl
    refine ⟨hbN, ?_⟩
    rw [han]
    simp only [deref]
    refine ⟨hbL, ?_⟩
    show deref lsl.a _
    rw [hal]
    simp only [deref]
    rw [Int.toNat_natCast]
    refine (r2.le m.le).ldAt (k := .sl) hal hsi rfl (m.arr.ldAt (k := ki) han hmi rfl ⟨⟨show (0 : Int) ≤ (cnt (ps.take j) i : Int) by omega, show (cnt (ps.take j) i : Int) < (sls[i].len : Int) by omega⟩, ?_⟩)
    rw [Int.toNat_natCast]
    obtain ⟨ax, hax⟩ := hxr.addr (by omega)
    rw [hax]
    simp only [deref]
    have hxx : xss[i][cnt (ps.take j) i]? = some (xss[i][cnt (ps.take j) i]'hrm) := by simp
    refine hxr.ldAt (k := kapiAct) hax hxx rfl ⟨hbN, m.arr.ldAt (k := ki) han hmi rfl ⟨hbN, ?_⟩⟩
    have wc : w64 ((cnt (ps.take j) i : Int) + 1) = ((cnt (ps.take j) i + 1 : Nat) : Int) := by rw [w64_of] <;> omega
    rw [wc]
    have hset := m.set (i := (i : Int)) hbN.1 hbN.2 (y := ((cnt (ps.take j) i + 1 : Nat) : Int)) rfl (sz := 1) rfl (K := fun h20 => Loop (explore_steps.l3 cD (size, (bg, (lsl, u0))) go (l, ((j : Int), u)) (i : Int)) (0, ((i : Int), (1, xss[i][cnt (ps.take j) i]'hrm)), ()) h20) ?_
    · rw [han, Int.toNat_natCast] at hset; exact hset
    intro h2 m2 x2
    rw [Int.toNat_natCast] at m2
    have hnew : ((List.range lsl.len).map fun i => (cnt (ps.take j) i : Int)).set i ((cnt (ps.take j) i + 1 : Nat) : Int) = (List.range lsl.len).map fun i => (cnt (ps.take (j + 1)) i : Int) := by
      apply List.ext_getElem
      · simp
      · intro i' h1 h2
        rw [List.getElem_set]
        simp only [List.getElem_map, List.getElem_range]
        rw [take_succ' ps hjt, cnt_app, cnt_one, hi]
        by_cases c : i = i'
        · subst c; rw [if_pos rfl, if_pos rfl]
        · rw [if_neg c, if_neg (by omega)]; rfl
    rw [hnew] at m2
    have n2 := n.ext x2 (fun b hb => ap b hb) m.new
    -- the new act
    have hrow : rowE xss ps j = ((i : Int), (xss[i][cnt (ps.take j) i]'hrm, ())) := by
      unfold rowE
      have e1 : (ps[j]?).getD 0 = (i : Int) := by rw [List.getElem?_eq_getElem hjt, hi]; rfl
      rw [e1, Int.toNat_natCast]
      unfold xAt
      rw [hxi]
      show ((i : Int), ((xss[i][cnt (ps.take j) i]?).getD ac0, ())) = _
      rw [hxx]; rfl
    generalize xss[i][cnt (ps.take j) i]'hrm = x at *
    have hSl : (steps bd (rowP xss ps j)).length = j := by rw [steps_len, rowP_len]
    refine Loop.up j (fun s => s.1) (fun q st k' => k' = h2 ∧ st.2.1 = ((i : Int), (((stF bd ((steps bd (rowP xss ps j)).take q) (rowE xss ps j) : Nat) : Int) + 1, x))) rfl ⟨rfl, rfl⟩ ?_
    rintro q ⟨q', d, u2⟩ k' go2 hq hcq ⟨rfl, hd⟩ hgo2
    dsimp only at hcq hd; subst hcq; subst hd
    have hlt2 : ∀ c ∈ (steps bd (rowP xss ps j)).take q, c.2 < j := fun c hc => by
      have := steps_lt bd (rowP xss ps j) c (List.mem_of_mem_take hc)
      rwa [rowP_len] at this
    have hst := stF_le bd (rowE xss ps j) _ j hlt2
    refine dcs (fun e2 => ?_) (fun e2 => ?_)
    · have e2 : (q : Int) < (l.len : Int) := e2
      have hql : q < (steps bd (rowP xss ps j)).length := by omega
      have hqj : q < j := by omega
      have hgq : ((steps bd (rowP xss ps j)).map toDone)[q]? = some (toDone (steps bd (rowP xss ps j))[q]) := by rw [List.getElem?_map]; simp [hql]
      refine ⟨⟨by omega, e2⟩, n2.arr.at (by omega) e2 rfl fun y hy => ?_⟩
      rw [Int.toNat_natCast, hgq] at hy
      have hy := Option.some.inj hy
      subst hy
      have hs1 := stF_take bd (steps bd (rowP xss ps j)) (rowE xss ps j) hql
      have hcl := steps_lt bd (rowP xss ps j) _ (List.getElem_mem hql)
      rw [rowP_len] at hcl
      generalize hcc : (steps bd (rowP xss ps j))[q] = c at *
      have w1 : w64 (((c.2 : Int) + 1) + 1) = (c.2 : Int) + 1 + 1 := by rw [w64_of] <;> omega
      have fin : ∀ b : Bool, (b = true ↔ bd c.1 (rowE xss ps j) = true) → explore_steps.j2 go2 ((q : Int), ((i : Int), (((stF bd ((steps bd (rowP xss ps j)).take q) (rowE xss ps j) : Nat) : Int) + 1, x)), u2) (toDone c) (b, ()) k' := fun b hb => by
        refine bcs (fun z => ?_) (fun z => ?_)
        · have z : b = true := z
          refine hgo2 hqj _ _ (w64_up' (n := j) hqj (by omega)) ⟨rfl, ?_⟩
          rw [hs1, if_pos (hb.1 z)]
          have key : (if ((stF bd ((steps bd (rowP xss ps j)).take q) (rowE xss ps j) : Nat) : Int) + 1 < (c.2 : Int) + 1 + 1 then (c.2 : Int) + 1 + 1 else ((stF bd ((steps bd (rowP xss ps j)).take q) (rowE xss ps j) : Nat) : Int) + 1) = ((max (stF bd ((steps bd (rowP xss ps j)).take q) (rowE xss ps j)) (c.2 + 1) : Nat) : Int) + 1 := by
            split <;> omega
          rw [← key, ← w1]
          rfl
        · have z : b = false := z
          refine hgo2 hqj _ _ (w64_up' (n := j) hqj (by omega)) ⟨rfl, ?_⟩
          rw [hs1, if_neg (fun y => by rw [hb.2 y] at z; cases z)]
      have hbq : ∀ P : Prop, (P ↔ DepI size (bg.len : Int) c.1.2.1.2.1 c.1.2.1.2.2.1 c.1.2.1.2.2.2.1 x.2.1 x.2.2.1 x.2.2.2.1) → (bd c.1 (rowE xss ps j) = true ↔ c.1.1 = (i : Int) ∨ P) := fun P hP => by
        rw [← hbd, hrow]
        show decide (c.1.1 = (i : Int) ∨ DepI size (bg.len : Int) c.1.2.1.2.1 c.1.2.1.2.2.1 c.1.2.1.2.2.2.1 x.2.1 x.2.2.1 x.2.2.2.1) = true ↔ _
        rw [decide_eq_true_eq, hP]
      refine dcs (fun e3 => fin true ⟨fun _ => (hbq _ Iff.rfl).2 (.inl e3), fun _ => rfl⟩) (fun e3 => iD fun b hb => fin b ?_)
      rw [hbq _ hb]
      exact ⟨.inr, fun z => z.resolve_left e3⟩
    · have e2 : ¬ (q : Int) < (l.len : Int) := e2
      obtain rfl : q = j := by omega
      rw [List.take_of_length_le (by omega)]
      have hdn : toDone (rowE xss ps q, stF bd (steps bd (rowP xss ps q)) (rowE xss ps q)) = ((i : Int), (((stF bd (steps bd (rowP xss ps q)) (rowE xss ps q) : Nat) : Int) + 1, (x, ()))) := by
        show ((rowE xss ps q).1, (((stF bd (steps bd (rowP xss ps q)) (rowE xss ps q) : Nat) : Int) + 1, ((rowE xss ps q).2.1, ()))) = _
        rw [show (rowE xss ps q).1 = (i : Int) from by rw [hrow], show (rowE xss ps q).2.1 = x from by rw [hrow]]
      refine n2.app3 (k := kexploredone) (x := ((i : Int), (((stF bd (steps bd (rowP xss ps q)) (rowE xss ps q) : Nat) : Int) + 1, (x, ())))) rfl rfl (show (l.len + 1) * 56 ≤ _ by omega) fun t3 h3 n3 x3 b3 => ?_
      refine hgo hjt _ _ (w64_up' (n := ps.length) hjt (by omega)) ⟨_, m2, ?_, m2.ext x3 (fun b hb hb2 => ap b hb2 hb) n2.new, fun b hb hb2 => ?_⟩
      · rw [rowP_succ, steps_snoc, List.map_append, List.map_singleton, hdn]
        exact n3
      · rcases b3 b hb with z | z
        · exact ap b z hb2
        · exact m2.own.live b hb2 z
  · have e : ¬ (j : Int) < (t.len : Int) := e
    obtain rfl : j = ps.length := by omega
    exact hQ l k n
end
end Go.Mx
