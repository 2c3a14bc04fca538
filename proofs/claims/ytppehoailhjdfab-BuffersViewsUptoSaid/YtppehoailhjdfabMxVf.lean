/-
  Lists of lists of one's own: written over, appended to, compared.
-/
import Derived.Test.YtppehoailhjdfabMxBr
import Derived.Test.YtppehoailhjdfabMxBg
set_option linter.unusedVariables false
set_option linter.unusedSimpArgs false
set_option linter.unusedSectionVars false
namespace Go.Mx

/-- A row is written over where it lies. -/
theorem Nest.inRowV {h0 h h2 : Heap} {k : Kd} {o : Sl} {els : List Sl} {xss : List (List (Den k))} (n : Nest h0 h k o els xss) {i : Nat} {sl : Sl} {ys : List (Den k)} (hs : els[i]? = some sl) (nt : New h0 h2 k sl ys) (x2 : Ext (blkOf sl) h h2) : Nest h0 h2 k o els (xss.set i ys) := by
  obtain ⟨s1, s2⟩ := List.pairwise_cons.1 n.sep
  have hm : sl ∈ els := List.mem_of_getElem? hs
  obtain ⟨xs0, r0⟩ := n.row' hm
  refine ⟨n.out.ext x2 (fun b x y => s1 sl hm b x y) r0.new, by rw [List.length_set]; exact n.len, fun j sj xs a b => ?_, n.sep⟩
  by_cases c : j = i
  · subst c
    rw [hs] at a; cases a
    rw [List.getElem?_set_self (by rw [← n.len]; exact (List.getElem?_eq_some_iff.1 hs).1)] at b; cases b
    exact nt
  · rw [List.getElem?_set_ne (fun e => c e.symm)] at b
    refine (n.row j sj xs a b).ext x2 (fun z u v => ?_) r0.new
    obtain ⟨hj', rfl⟩ := List.getElem?_eq_some_iff.1 a
    obtain ⟨hi', rfl⟩ := List.getElem?_eq_some_iff.1 hs
    rw [List.pairwise_iff_getElem] at s2
    rcases Nat.lt_or_gt_of_ne c with c | c
    · exact s2 j i hj' hi' c z u v
    · exact s2 i j hi' hj' c z v u
theorem Own.addrV {h : Heap} {k : Kd} {s : Sl} {ys : List (Den k)} (o : Own h k s ys) {x : Nat} (hx : blkOf s x) : s.a = some ⟨x, 0, none⟩ := by
  rcases o with ⟨rfl, _⟩ | ⟨b, e, _⟩
  · exact absurd hx no_blk
  · obtain ⟨a, q, rfl⟩ := hx
    rw [e] at q; cases q
    exact e
theorem Arr.preV {h : Heap} {k : Kd} {s t : Sl} {xs ys : List (Den k)} (c : Arr h k t (xs ++ ys)) (e : s.a = t.a) (hl : xs.length = s.len) (hc : s.len ≤ s.cap) : Arr h k s xs := by
  obtain ⟨sa, sn, sc⟩ := s
  obtain ⟨ta, tn, tc⟩ := t
  obtain rfl : sa = ta := e
  obtain ⟨c1, c2, c3⟩ := c
  cases sa with
  | none =>
    refine ⟨hl, hc, ?_⟩
    have c3 : tn = 0 := c3
    rw [List.length_append] at c1
    dsimp only at c1 hl ⊢
    omega
  | some a =>
    refine ⟨hl, hc, ?_⟩
    have c3 : cellsAt h a ((xs ++ ys).flatMap k.cells) := c3
    rw [List.flatMap_append] at c3
    exact (cellsAt_append c3).1

theorem set_sameV {α : Type} {l : List α} {i : Nat} {x : α} (h : l[i]? = some x) : l.set i x = l := by
  obtain ⟨hi, rfl⟩ := List.getElem?_eq_some_iff.1 h
  exact List.set_getElem_self hi

/-! ### all rows written over -/
def markB (k : Kd) (sz : Nat) (o : Sl) (m : Int → Den k) (go5 : (Int × Unit) → Heap → Prop) (s3 : (Int × Unit)) (go8 : (Int × Unit) → Heap → Prop) (s6 : (Int × Unit)) (h7 : Heap) : Prop :=
    (0 ≤ s3.1 ∧ s3.1 < (o.len : Int)) ∧
    deref o.a fun a9 =>
    ld (.sl : Kd) h7 (a9.add ((s3.1 : Int).toNat * 1)) fun t10 =>
    (((decide (s6.1 < (t10.len : Int))) = true →
    (0 ≤ s3.1 ∧ s3.1 < (o.len : Int)) ∧
    deref o.a fun a11 =>
    ld (.sl : Kd) h7 (a11.add ((s3.1 : Int).toNat * 1)) fun t12 =>
    (0 ≤ s6.1 ∧ s6.1 < (t12.len : Int)) ∧
    deref t12.a fun a13 =>
    st k h7 (a13.add ((s6.1 : Int).toNat * sz)) (m s3.1) fun h14 =>
    go8 ((w64 (s6.1 + 1)), ()) h14) ∧
    ((decide (s6.1 < (t10.len : Int))) = false →
    go5 ((w64 (s3.1 + 1)), ()) h7))
def markO (k : Kd) (sz : Nat) (o : Sl) (m : Int → Den k) (cont : Heap → Prop) (go5 : (Int × Unit) → Heap → Prop) (s3 : (Int × Unit)) (h4 : Heap) : Prop :=
    (((decide (s3.1 < (o.len : Int))) = true →
    Loop (markB k sz o m go5 s3) (0, ()) h4) ∧
    ((decide (s3.1 < (o.len : Int))) = false →
    cont h4))
def markedP {k : Kd} (m : Int → Den k) (xss : List (List (Den k))) : List (List (Den k)) := (List.range xss.length).map fun (i : Nat) => List.replicate (xss.getD i []).length (m (i : Int))
theorem markedP_len {k : Kd} (m : Int → Den k) (xss : List (List (Den k))) : (markedP m xss).length = xss.length := by unfold markedP; simp
theorem markedP_get {k : Kd} (m : Int → Den k) {xss : List (List (Den k))} {i : Nat} (h : i < xss.length) : (markedP m xss)[i]? = some (List.replicate (xss.getD i []).length (m (i : Int))) := by
  unfold markedP
  rw [List.getElem?_map, List.getElem?_range h]; rfl
theorem mark_spec {k : Kd} {sz : Nat} (hsz : sz = k.size) (hone : k.flat = true) {h0 h : Heap} {o : Sl} {els : List Sl} {xss : List (List (Den k))} (n : Nest h0 h k o els xss) (h8 : xss.length ≤ 1000000000) (hr : ∀ xs ∈ xss, xs.length ≤ 1000000000) {m : Int → Den k} {cont : Heap → Prop}
    (hQ : ∀ h', Nest h0 h' k o els (markedP m xss) → Ext (fpN o els) h h' → cont h') : Loop (markO k sz o m cont) (0, ()) h := by
  have oln := n.out.len
  have eln := n.len
  have ml := markedP_len m xss
  refine Loop.up xss.length (fun s => s.1) (fun i _ g => Nest h0 g k o els (mix i (markedP m xss) xss) ∧ Ext (fpN o els) h g) rfl ⟨n, Ext.refl _ _⟩ ?_
  rintro i ⟨i', u⟩ g go hi hc ⟨ni, xi⟩ hgo
  dsimp only at hc; subst hc
  refine ⟨fun d => ?_, fun d => ?_⟩
  · have d : (i : Int) < (o.len : Int) := of_decide_eq_true d
    have hil : i < xss.length := by omega
    obtain ⟨sl, hsl⟩ : ∃ sl, els[i]? = some sl := ⟨els[i]'(by omega), by simp⟩
    have hxi : xss[i]? = some (xss.getD i []) := by rw [List.getD_eq_getElem?_getD]; simp [hil]
    have hmi := markedP_get m hil
    have hX := hr _ (List.mem_of_getElem? hxi)
    have hmx : (mix i (markedP m xss) xss)[i]? = some (xss.getD i []) := by rw [mix_get (by omega) (Nat.le_refl _)]; exact hxi
    have hms := mix_set (xs := markedP m xss) (ys := xss) ml (i := i) hmi
    generalize xss.getD i [] = X at hxi hmi hX hmx hms
    obtain ⟨oa, on, oc⟩ := o
    dsimp only at oln
    cases oa with
    | none => obtain ⟨a, e⟩ := ni.out.arr.addr (by dsimp only; omega); cases e
    | some oa =>
    have hb : 0 ≤ (i : Int) ∧ (i : Int) < (on : Int) := ⟨by omega, by omega⟩
    have rowl := (ni.row i sl X hsl hmx).len
    refine Loop.up X.length (fun s => s.1) (fun j _ g' => Nest h0 g' k ⟨some oa, on, oc⟩ els ((mix i (markedP m xss) xss).set i (mix j (List.replicate X.length (m (i : Int))) X)) ∧ Ext (fpN ⟨some oa, on, oc⟩ els) h g') rfl ⟨by
      rw [mix_zero, set_sameV hmx]; exact ni, xi⟩ ?_
    rintro j ⟨j', u2⟩ g1 go2 hj hc ⟨nj, xj⟩ hgo2
    dsimp only at hc; subst hc
    have hset : ((mix i (markedP m xss) xss).set i (mix j (List.replicate X.length (m (i : Int))) X))[i]? = some (mix j (List.replicate X.length (m (i : Int))) X) := by
      rw [List.getElem?_set_self (by rw [mix_len (by omega)]; exact hil)]
    have row := nj.row i sl _ hsl hset
    have rl := row.len
    have hml : (mix j (List.replicate X.length (m (i : Int))) X).length = X.length := mix_len (by simp) j
    have rE : ∀ {K : Sl → Prop}, K sl → ld .sl g1 (oa.add (i * 1)) K := fun h => nj.out.arr.ldAt rfl hsl rfl h
    refine ⟨hb, rE ⟨fun q => ?_, fun q => ?_⟩⟩
    · have q : (j : Int) < (sl.len : Int) := of_decide_eq_true q
      have hjX : j < X.length := by omega
      have hbj : 0 ≤ (j : Int) ∧ (j : Int) < (sl.len : Int) := ⟨by omega, q⟩
      refine ⟨hb, rE ⟨hbj, row.set (i := (j : Int)) (by omega) q hone hsz fun g2 n2 x2 => ?_⟩⟩
      rw [Int.toNat_natCast, mix_set (by simp) (x := m (i : Int)) (by rw [List.getElem?_replicate, if_pos hjX])] at n2
      have nn := nj.inRowV hsl n2 x2
      rw [List.set_set] at nn
      exact hgo2 hjX _ _ (by show w64 ((j : Int) + 1) = _; rw [w64_of] <;> omega) ⟨nn, xj.trans (x2.mono fun x q => .inr ⟨sl, List.mem_of_getElem? hsl, q⟩)⟩
    · have q : ¬ (j : Int) < (sl.len : Int) := of_decide_eq_false q
      obtain rfl : j = X.length := by omega
      have hma : mix X.length (List.replicate X.length (m (i : Int))) X = List.replicate X.length (m (i : Int)) := mix_all (List.length_replicate ..) (List.length_replicate ..)
      rw [hma, hms] at nj
      exact hgo hil _ _ (by show w64 ((i : Int) + 1) = _; rw [w64_of] <;> omega) ⟨nj, xj⟩
  · have d : ¬ (i : Int) < (o.len : Int) := of_decide_eq_false d
    obtain rfl : i = xss.length := by omega
    rw [mix_all ml ml] at ni
    exact hQ g ni xi

/-! ### one row appended to, many times -/
def appB (k : Kd) (sz bytes : Nat) (x : Den k) (go39 : (Int × Unit) → Heap → Prop) (s37 : (Int × Unit)) (go44 : (Sl × (Int × Unit)) → Heap → Prop) (s42 : (Sl × (Int × Unit))) (h43 : Heap) : Prop :=
    (((decide (s42.2.1 < 64)) = true →
    new h43 (([x] : List (Den k)).flatMap (Kd.cells k)) fun p45 h46 =>
    appendM sz bytes h46 s42.1 ⟨some p45, 1, 1⟩ fun t47 h48 =>
    go44 (t47, (w64 (s42.2.1 + 1)), ()) h48) ∧
    ((decide (s42.2.1 < 64)) = false →
    go39 ((w64 (s37.1 + 1)), ()) h43))
theorem app_row {k : Kd} {sz bytes : Nat} (hsz : sz = k.size) (hone : k.flat = true) (hbt : bytes ≤ 64) {h0 h : Heap} {s : Sl} {xs : List (Den k)} (n0 : New h0 h k s xs) (hl : xs.length ≤ 1000000000) {x : Den k} {go39 : (Int × Unit) → Heap → Prop} {i : Int} {u : Unit}
    (hgo : ∀ g, Ext (blkOf s) h g → Arr g k s xs → go39 (w64 (i + 1), ()) g) : Loop (appB k sz bytes x go39 (i, u)) (s, 0, ()) h := by
  have sc := n0.arr.2.1
  have sl := n0.len
  refine Loop.up 64 (fun t => t.2.1) (fun j t g => New h0 g k t.1 (xs ++ List.replicate j x) ∧ Ext (blkOf s) h g ∧ (∀ b, blkOf t.1 b → blkOf s b ∨ h b = none) ∧ Own g k t.1 (xs ++ List.replicate j x) ∧ Arr g k s xs) rfl ⟨by simpa using n0, Ext.refl _ _, fun b hb => .inl hb, by simpa using n0.own, n0.arr⟩ ?_
  rintro j ⟨t, j', u2⟩ g go hj hc ⟨n, xg, bg, _, ar⟩ hgo2
  dsimp only at hc n bg; subst hc
  have tl := n.len
  rw [List.length_append, List.length_replicate] at tl
  refine ⟨fun d => ?_, fun d => ?_⟩
  · have d : (j : Int) < 64 := of_decide_eq_true d
    have hbb : (t.len + 1) * bytes ≤ 140737488355328 := by
      have : (t.len + 1) * bytes ≤ (t.len + 1) * 64 := Nat.mul_le_mul_left _ hbt
      omega
    refine n.own.app4 n.len hone hsz hbb fun t2 g2 o2 tl2 x2 b2 z2 => ?_
    have n2 : New h0 g2 k t2 (xs ++ List.replicate (j + 1) x) := by
      refine ⟨?_, ?_, le_ext n.le x2 n.new, fun b hb => ?_⟩
      · rw [List.replicate_succ', ← List.append_assoc]; exact o2
      · rw [List.length_append, List.length_replicate]; omega
      · rcases b2 b hb with c | c
        · exact n.new b c
        · exact n.le.none c
    have ar2 : Arr g2 k s xs := by
      rcases z2 with z | z
      · by_cases e : t.a = s.a
        · exact n2.arr.preV (e.symm.trans z.symm) sl sc
        · refine Arr.ext x2 ar fun b hb hb2 => e ?_
          rw [n.own.addrV hb2]
          by_cases hbs : blkOf s b
          · exact (n0.own.addrV hbs).symm
          · exact absurd hb hbs
      · exact ar.le z
    refine hgo2 (by omega) _ _ (by show w64 ((j : Int) + 1) = _; rw [w64_of] <;> omega) ⟨n2, ⟨fun b o e nb => ?_, fun b e => xg.2 b (x2.2 b e)⟩, fun b hb => ?_, n2.own, ar2⟩
    · refine x2.1 b o (xg.1 b o e nb) fun c => ?_
      rcases bg b c with c | c
      · exact nb c
      · rw [c] at e; cases e
    · rcases b2 b hb with c | c
      · exact bg b c
      · exact .inr (xg.2 b c)
  · exact hgo g xg ar

end Go.Mx
