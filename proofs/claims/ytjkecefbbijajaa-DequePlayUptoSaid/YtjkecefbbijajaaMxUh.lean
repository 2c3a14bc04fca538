/-
  The law DequePlay.
-/
import Derived.Test.YtjkecefbbijajaaMxUg
set_option linter.unusedVariables false
set_option linter.unusedSimpArgs false
set_option linter.unusedSectionVars false
set_option maxRecDepth 10000
namespace Go.Mx

structure RL where
  c : List DCl
  r : List Int
  l : List Acc
/-- What a play answers. -/
structure ResR (h0 h : Heap) (v : Den KRu) (R : RL) : Prop where
  c : New h0 h KCl v.1 R.c
  r : New h0 h ki v.2.1 R.r
  l : New h0 h KAcc v.2.2.1 R.l
  a1 : Apart v.1 v.2.1
  a2 : Apart v.1 v.2.2.1
  a3 : Apart v.2.1 v.2.2.1
  bc : R.c.length ≤ 1000000000
  br : R.r.length ≤ 1000000000
  bl : R.l.length ≤ 1000000000
def fpU (v : Den KRu) : Nat → Prop := fun x => blkOf v.1 x ∨ blkOf v.2.1 x ∨ blkOf v.2.2.1 x
theorem ResR.more {h0 h h' v R} (r : ResR h0 h v R) (l : le h h') : ResR h0 h' v R := ⟨r.c.more l, r.r.more l, r.l.more l, r.a1, r.a2, r.a3, r.bc, r.br, r.bl⟩
theorem ResR.base {h0 h1 h v R} (r : ResR h1 h v R) (l : le h0 h1) : ResR h0 h v R := ⟨r.c.base l, r.r.base l, r.l.base l, r.a1, r.a2, r.a3, r.bc, r.br, r.bl⟩
theorem ResR.ext {h0 h h' v R} (r : ResR h0 h v R) {S : Nat → Prop} (e : Ext S h h') (d : ∀ x, fpU v x → ¬ S x) (f : ∀ x, S x → h0 x = none) : ResR h0 h' v R :=
  ⟨r.c.ext e (fun x q => d x (.inl q)) f, r.r.ext e (fun x q => d x (.inr (.inl q))) f, r.l.ext e (fun x q => d x (.inr (.inr q))) f, r.a1, r.a2, r.a3, r.bc, r.br, r.bl⟩
theorem ResR.new {h0 h v R} (r : ResR h0 h v R) {x : Nat} (q : fpU v x) : h0 x = none := by
  rcases q with q | q | q
  · exact r.c.new x q
  · exact r.r.new x q
  · exact r.l.new x q
theorem ResR.live {h0 h v R} (r : ResR h0 h v R) {x : Nat} (q : fpU v x) : h x ≠ none := by
  rcases q with q | q | q
  · exact r.c.own.live x q
  · exact r.r.own.live x q
  · exact r.l.own.live x q
theorem ResR.le {h0 h v R} (r : ResR h0 h v R) : Go.Mx.le h0 h := r.c.le
def playL (low most : Int) (todos : List DTd) (thieves : Int) (picks : List Int) : RL := if judgeE low most todos thieves picks = 0 then ⟨(playOf low most todos thieves picks).calls, ctn (playOf low most todos thieves picks).m.cs, (playOf low most todos thieves picks).m.lg⟩ else ⟨[], [], []⟩
def PlayD (c : Int → Int → Sl → Int → Sl → Heap → ((Den KRu × (Int × Unit)) → Heap → Prop) → Prop) : Prop := ∀ {low most thieves : Int} {td pk : Sl} {h : Heap} {todos : List DTd} {picks : List Int} {Q : (Den KRu × (Int × Unit)) → Heap → Prop}, Arr h KTd td todos → Arr h ki pk picks →
  (∀ v h', ResR h h' v (playL low most todos thieves picks) → Q (v, (judgeE low most todos thieves picks, ())) h') → c low most td thieves pk h Q
theorem playD_of {c} (i : Play3C c) : PlayD c := by
  intro low most thieves td pk h todos picks Q ht hp hQ
  refine i ht hp (fun e => ?_) fun e ca re lg h' R => ?_
  · refine hQ _ h ?_
    unfold playL
    rw [if_neg e]
    exact ⟨New.none (le.refl h) KCl, New.none (le.refl h) ki, New.none (le.refl h) KAcc, fun x q => (no_blk3 q).elim, fun x q => (no_blk3 q).elim, fun x q => (no_blk3 q).elim, by decide, by decide, by decide⟩
  · have hj : ¬ (4096 < todos.length ∨ 1048576 < picks.length) ∧ CapE low most ∧ ¬ (thieves < 0 ∨ 3 < thieves) := by
      unfold judgeE at e
      by_cases a : 4096 < todos.length ∨ 1048576 < picks.length
      · rw [if_pos a] at e; cases e
      · by_cases b : CapE low most
        · by_cases c : thieves < 0 ∨ 3 < thieves
          · rw [if_neg a, if_neg (fun n => n b), if_pos c] at e; cases e
          · exact ⟨a, b, c⟩
        · rw [if_neg a, if_pos b] at e; cases e
    obtain ⟨j1, j2, j3⟩ := hj
    have ok0 := ps0_ok (todos := todos) (thieves := thieves) j2 (by omega)
    have pi0 := ps0_pi (todos := todos) (thieves := thieves) j2 (by omega)
    have hac0 : (ps0 low most todos thieves).acts.length = (1 + thieves).toNat := List.length_replicate
    have hws : ∀ w ∈ whos thieves picks, w < (ps0 low most todos thieves).acts.length := fun w hw => by rw [hac0]; exact whos_mem (by omega) hw
    have hwl : (whos thieves picks).length = picks.length := List.length_map ..
    obtain ⟨oki, hli⟩ := run_ok (most := most) (whos thieves picks) (n := 0) ok0 hws
    have pii := pi0.runs (whos thieves picks) (n := 0) (by omega) hws
    have hro := pii.restOk (by omega)
    have := hQ (ca, (re, (lg, ()))) h'
    rw [e] at this
    unfold playL at this
    rw [if_pos e] at this
    refine this ⟨R.calls, R.rest, R.log, R.a1, R.a2, R.a3, Nat.le_trans oki.cn (by omega), ?_, Nat.le_trans oki.fit.lg (by omega)⟩
    show (ctn (playOf low most todos thieves picks).m.cs).length ≤ _
    unfold ctn
    rw [List.length_map, List.length_range]
    have h1 := hro.t0
    have h2 := hro.bn
    show (gt (playOf low most todos thieves picks).m.cs 1 - gt (playOf low most todos thieves picks).m.cs 0).toNat ≤ _
    have e1 : (playOf low most todos thieves picks).m.cs = ((ps0 low most todos thieves).run most 0 (whos thieves picks)).m.cs := rfl
    rw [e1]; omega
def setV (y : DCl) : DCl := (y.1, (y.2.1, (y.2.2.1, (y.2.2.2.1, (y.2.2.2.2.1, (y.2.2.2.2.2.1, (-9, ())))))))
def setW (y : Acc) : Acc := (-7, y.2)
def newV : DCl := (0, (0, (0, (0, (0, (0, (-9, ())))))))
def newW : Acc := (-7, (0, (0, (0, (0, (false, ()))))))
section
variable {cD cR : Int → Int → Sl → Int → Sl → Heap → ((Den KRu × (Int × Unit)) → Heap → Prop) → Prop} {cC cI cL : Sl → Sl → Heap → (Bool → Heap → Prop) → Prop} (iD : PlayD cD) (iR : PlayD cR) (iC : Same3 KCl cC) (iI : Same3 ki cI) (iL : Same3 KAcc cL)
include iD iR iC iI iL
/-- The last part: the lists turned round. -/
theorem law_end {h0 h : Heap} {first most thieves : Int} {t9 t13 : Sl} {ts : List DTd} {ps : List Int} {Q : Bool → Heap → Prop} (n9 : New h0 h KTd t9 ts) (n13 : New h0 h ki t13 ps) (ap : Apart t9 t13) (b9 : ts.length ≤ 1000000000) (b13 : ps.length ≤ 1000000000) (hQ : ∀ h', le h0 h' → Q true h') :
    law3_DequePlay.k3 cD cR cC cI cL Q (first, (most, (thieves, (t9, (t13, ()))))) h := by
  refine iD n9.arr n13.arr fun v h1 r1 => ?_
  refine turn3 (k := KTd) (sz := 2) rfl rfl (n9.more r1.le) b9 (cont := fun g => Loop (law3_DequePlay.l1 cD cR cC cI cL Q (first, (most, (thieves, (t9, (t13, ())))))) (0, ()) g) (fun h2 ts' n9' l9 x2 => ?_) (fun go s g => rfl)
  have n13' := (n13.more r1.le).ext x2 (fun x q r => ap x r q) n9.new
  refine turn3 (k := ki) (sz := 1) rfl rfl n13' b13 (cont := fun h126 => cD first most t9 thieves t13 h126 fun r136 h137 => cR first most t9 thieves t13 h137 fun r138 h139 => (((decide (r136.2.1 = r138.2.1)) = true → cC r136.1.1 r138.1.1 h139 fun r140 h141 => ((r140 = true → cI r136.1.2.1 r138.1.2.1 h141 fun r142 h143 => ((r142 = true → cL r136.1.2.2.1 r138.1.2.2.1 h143 fun r144 h145 => Q r144 h145) ∧ (r142 = false → Q false h143))) ∧ (r140 = false → Q false h141))) ∧ ((decide (r136.2.1 = r138.2.1)) = false → Q false h139))) (fun h3 ps' n13'' l13 x3 => ?_) (fun go s g => rfl)
  have n9'' := n9'.ext x3 (fun x q r => ap x q r) n13.new
  refine iD n9''.arr n13''.arr fun u h4 r4 => iR (n9''.arr.le r4.le) (n13''.arr.le r4.le) fun w h5 r5 => ⟨fun _ => ?_, fun e => absurd rfl (of_decide_eq_false e)⟩
  have r4' := r4.more r5.le
  exact iC r4'.c.arr r5.c.arr r4.bc ⟨fun _ => iI r4'.r.arr r5.r.arr r4.br ⟨fun _ => iL r4'.l.arr r5.l.arr r4.bl (hQ _ ((n13''.le.trans r4.le).trans r5.le)), fun e => (by cases e)⟩, fun e => (by cases e)⟩
/-- A play more, while the first one's lists hold marks. -/
theorem law_k8 {h0 h : Heap} {first most thieves : Int} {td pk t9 t13 : Sl} {v15 v31 : Den KRu} {ts : List DTd} {ps : List Int} {cs : List DCl} {rs : List Int} {ls : List Acc} {Q : Bool → Heap → Prop} (am : Arr h0 KTd td ts) (aq : Arr h0 ki pk ps) (n9 : New h0 h KTd t9 ts) (n13 : New h0 h ki t13 ps) (ap : Apart t9 t13) (b9 : ts.length ≤ 1000000000) (b13 : ps.length ≤ 1000000000)
    (a1 : Arr h KCl v15.1 (cs.map setV)) (a2 : Arr h ki v15.2.1 (rs.map fun _ => (-8 : Int))) (a3 : Arr h KAcc v15.2.2.1 (ls.map setW)) (c1 : cs.length ≤ 1000000000) (c2 : rs.length ≤ 1000000000) (c3 : ls.length ≤ 1000000000) (r31 : ResR h0 h v31 (playL first most ts thieves ps)) (hQ : ∀ h', le h0 h' → Q true h') :
    law3_DequePlay.k8 cD cR cC cI cL Q (first, (most, (td, (thieves, (pk, (t9, (t13, (judgeE first most ts thieves ps, (v15, (v31, ())))))))))) h := by
  refine iD (am.le n9.le) (aq.le n9.le) fun v h1 r1 => ?_
  have l1 := r1.le
  have end4 : ∀ h', le h1 h' → law3_DequePlay.j4 cD cR cC cI cL Q (first, (most, (td, (thieves, (pk, (t9, (t13, (judgeE first most ts thieves ps, (v15, (v31, ())))))))))) (false, ()) h' := fun h' l' =>
    ⟨fun e => (by cases e), fun _ => law_end iD iR iC iI iL (n9.more (l1.trans l')) (n13.more (l1.trans l')) ap b9 b13 hQ⟩
  refine chk3 (k := KCl) (sz := 7) (off := 6) (v := -9) rfl (a1.le l1) (by rw [List.length_map]; exact c1) (fun y hy => ?_) (Q := Q) (cont := fun g => Loop (law3_DequePlay.l6 cD cR cC cI cL Q (first, (most, (td, (thieves, (pk, (t9, (t13, (judgeE first most ts thieves ps, (v15, (v31, ())))))))))) (v, (judgeE first most ts thieves ps, ()))) (0, ()) g) ?_ (fun go s g => rfl)
  · obtain ⟨z, _, rfl⟩ := List.mem_map.1 hy
    exact ⟨[_, _, _, _, _, _], [], rfl, rfl⟩
  refine chk3 (k := ki) (sz := 1) (off := 0) (v := -8) rfl (a2.le l1) (by rw [List.length_map]; exact c2) (fun y hy => ?_) (Q := Q) (cont := fun g => Loop (law3_DequePlay.l5 cD cR cC cI cL Q (first, (most, (td, (thieves, (pk, (t9, (t13, (judgeE first most ts thieves ps, (v15, (v31, ())))))))))) (v, (judgeE first most ts thieves ps, ()))) (0, ()) g) ?_ (fun go s g => rfl)
  · obtain ⟨z, _, rfl⟩ := List.mem_map.1 hy
    exact ⟨[], [], rfl, rfl⟩
  refine chk3 (k := KAcc) (sz := 6) (off := 0) (v := -7) rfl (a3.le l1) (by rw [List.length_map]; exact c3) (fun y hy => ?_) (Q := Q) (cont := fun h106 => ((decide (judgeE first most ts thieves ps ≠ judgeE first most ts thieves ps)) = true → law3_DequePlay.j4 cD cR cC cI cL Q (first, (most, (td, (thieves, (pk, (t9, (t13, (judgeE first most ts thieves ps, (v15, (v31, ())))))))))) (true, ()) h106) ∧ ((decide (judgeE first most ts thieves ps ≠ judgeE first most ts thieves ps)) = false →
      cC v.1 v31.1 h106 fun r148 h149 => (((!r148) = true → law3_DequePlay.j4 cD cR cC cI cL Q (first, (most, (td, (thieves, (pk, (t9, (t13, (judgeE first most ts thieves ps, (v15, (v31, ())))))))))) (true, ()) h149) ∧ ((!r148) = false → cI v.2.1 v31.2.1 h149 fun r150 h151 => (((!r150) = true → law3_DequePlay.j4 cD cR cC cI cL Q (first, (most, (td, (thieves, (pk, (t9, (t13, (judgeE first most ts thieves ps, (v15, (v31, ())))))))))) (true, ()) h151) ∧ ((!r150) = false →
        cL v.2.2.1 v31.2.2.1 h151 fun r152 h153 => law3_DequePlay.j4 cD cR cC cI cL Q (first, (most, (td, (thieves, (pk, (t9, (t13, (judgeE first most ts thieves ps, (v15, (v31, ())))))))))) ((!r152), ()) h153)))))) ?_ (fun go s g => rfl)
  · obtain ⟨z, _, rfl⟩ := List.mem_map.1 hy
    exact ⟨[], _, rfl, rfl⟩
  refine ⟨fun e => absurd rfl (of_decide_eq_true e), fun _ => ?_⟩
  have r31' := r31.more l1
  exact iC r1.c.arr r31'.c.arr r1.bc ⟨fun e => (by cases e), fun _ => iI r1.r.arr r31'.r.arr r1.br ⟨fun e => (by cases e), fun _ => iL r1.l.arr r31'.l.arr r1.bl (end4 h1 (le.refl _))⟩⟩
/-- The first one's lists are written over and grown. -/
theorem law_k14 {h0 h : Heap} {first most thieves : Int} {td pk t9 t13 : Sl} {v15 v31 v55 : Den KRu} {ts : List DTd} {ps : List Int} {Q : Bool → Heap → Prop} (am : Arr h0 KTd td ts) (aq : Arr h0 ki pk ps) (n9 : New h0 h KTd t9 ts) (n13 : New h0 h ki t13 ps) (ap : Apart t9 t13) (b9 : ts.length ≤ 1000000000) (b13 : ps.length ≤ 1000000000)
    (r15 : ResR h0 h v15 (playL first most ts thieves ps)) (r31 : ResR h0 h v31 (playL first most ts thieves ps)) (r55 : ResR h0 h v55 (playL first most ts thieves ps)) (d9 : ∀ x, fpU v15 x → ¬ blkOf t9 x) (d13 : ∀ x, fpU v15 x → ¬ blkOf t13 x) (d31 : ∀ x, fpU v15 x → ¬ fpU v31 x) (d55 : ∀ x, fpU v15 x → ¬ fpU v55 x) (hQ : ∀ h', le h0 h' → Q true h') :
    law3_DequePlay.k14 cD cR cC cI cL Q (first, (most, (td, (thieves, (pk, (t9, (t13, (judgeE first most ts thieves ps, (v15, (v31, (v55, ()))))))))))) h := by
  refine fill3 (k := KCl) (kp := ki) (sz := 7) (off := 6) rfl rfl (by decide) r15.c r15.bc (v := (-9 : Int)) (f := setV) (fun y => rfl) (cont := fun g => Loop (law3_DequePlay.l12 cD cR cC cI cL Q (first, (most, (td, (thieves, (pk, (t9, (t13, (judgeE first most ts thieves ps, (v15, (v31, (v55, ())))))))))))) (0, ()) g) (fun h1 n1 x1 => ?_) (fun go s g => rfl)
  have nr1 := r15.r.ext x1 (fun x q r => r15.a1 x r q) r15.c.new
  have nl1 := r15.l.ext x1 (fun x q r => r15.a2 x r q) r15.c.new
  refine fill3 (k := ki) (kp := ki) (sz := 1) (off := 0) rfl rfl (by decide) nr1 r15.br (v := (-8 : Int)) (f := fun _ => (-8 : Int)) (fun y => rfl) (cont := fun g => Loop (law3_DequePlay.l11 cD cR cC cI cL Q (first, (most, (td, (thieves, (pk, (t9, (t13, (judgeE first most ts thieves ps, (v15, (v31, (v55, ())))))))))))) (0, ()) g) (fun h2 n2 x2 => ?_) (fun go s g => rfl)
  have nc2 := n1.ext x2 (fun x q r => r15.a1 x q r) r15.r.new
  have nl2 := nl1.ext x2 (fun x q r => r15.a3 x r q) r15.r.new
  refine fill3 (k := KAcc) (kp := ki) (sz := 6) (off := 0) rfl rfl (by decide) nl2 r15.bl (v := (-7 : Int)) (f := setW) (fun y => rfl) (cont := fun g => Loop (law3_DequePlay.l10 cD cR cC cI cL Q (first, (most, (td, (thieves, (pk, (t9, (t13, (judgeE first most ts thieves ps, (v15, (v31, (v55, ())))))))))))) (v15.1, (v15.2.1, (v15.2.2.1, (0, ())))) g) (fun h3 n3 x3 => ?_) (fun go s g => rfl)
  have nc3 := nc2.ext x3 (fun x q r => r15.a2 x q r) r15.l.new
  have nr3 := n2.ext x3 (fun x q r => r15.a3 x q r) r15.l.new
  have xf : Ext (fpU v15) h h3 := (x1.mono fun x q => .inl q).trans ((x2.mono fun x q => .inr (.inl q)).trans (x3.mono fun x q => .inr (.inr q)))
  have ff : ∀ x, fpU v15 x → h0 x = none := fun x q => r15.new q
  have lc := r15.bc
  have lr := r15.br
  have ll := r15.bl
  generalize hR : playL first most ts thieves ps = R at *
  have hc1 : (R.c.map setV).length ≤ 1000000000 := by rw [List.length_map]; exact lc
  have hr1 : (R.r.map fun _ => (-8 : Int)).length ≤ 1000000000 := by rw [List.length_map]; exact lr
  have hl1 : (R.l.map setW).length ≤ 1000000000 := by rw [List.length_map]; exact ll
  refine Loop.up 64 (fun t => t.2.2.2.1) (fun j t g => App3 h0 h3 g KCl v15.1 (R.c.map setV) newV j t.1 ∧ App3 h0 h3 g ki v15.2.1 (R.r.map fun _ => (-8 : Int)) (-8 : Int) j t.2.1 ∧ App3 h0 h3 g KAcc v15.2.2.1 (R.l.map setW) newW j t.2.2.1 ∧ (∀ x, blkOf t.1 x → ¬ blkOf t.2.1 x ∧ ¬ blkOf t.2.2.1 x) ∧ (∀ x, blkOf t.2.1 x → ¬ blkOf t.2.2.1 x) ∧ Ext (fpU v15) h3 g) rfl ⟨.start nc3, .start nr3, .start n3, fun x q => ⟨r15.a1 x q, r15.a2 x q⟩, fun x q => r15.a3 x q, Ext.refl _ _⟩ ?_
  rintro j ⟨tc, tr, tl, j', u⟩ g go hj hcc ⟨Ac, Ar, Al, e1, e2, xg⟩ hgo
  dsimp only at hcc Ac Ar Al e1 e2; subst hcc
  have sep : ∀ {k1 k2 : Kd} {s1 s2 t1 t2 : Sl} {y1 : List (Den k1)} {y2 : List (Den k2)} {w1 : Den k1} {w2 : Den k2} {g : Heap} {j1 j2 : Nat}, App3 h0 h3 g k1 s1 y1 w1 j1 t1 → App3 h0 h3 g k2 s2 y2 w2 j2 t2 → (∀ x, blkOf s1 x → ¬ blkOf s2 x) → (∀ x, blkOf t1 x → ¬ blkOf t2 x) → ∀ x, (blkOf s1 x ∨ blkOf t1 x) → ¬ blkOf t2 x := by
    intro k1 k2 s1 s2 t1 t2 y1 y2 w1 w2 g j1 j2 A1 A2 z1 z2 x p q
    rcases p with p | p
    · rcases A2.b x q with r | r
      · exact z1 x p r
      · exact A1.s0.own.live x p r
    · exact z2 x p q
  have grow : ∀ {t t' t2 : Sl} {g : Heap}, (∀ x, blkOf t2 x → ¬ blkOf t x) → (∀ x, blkOf t2 x → g x ≠ none) → (∀ x, blkOf t' x → blkOf t x ∨ g x = none) → ∀ x, blkOf t2 x → ¬ blkOf t' x := by
    intro t t' t2 g z1 z2 z3 x p q
    rcases z3 x q with r | r
    · exact z1 x p r
    · exact z2 x p r
  have xin : ∀ {k1 : Kd} {s1 t1 : Sl} {y1 : List (Den k1)} {w1 : Den k1} {g1 g2 : Heap} {j1 : Nat}, App3 h0 h3 g1 k1 s1 y1 w1 j1 t1 → (∀ x, blkOf s1 x → fpU v15 x) → Ext (fpU v15) h3 g1 → Ext (blkOf t1) g1 g2 → Ext (fpU v15) h3 g2 := by
    intro k1 s1 t1 y1 w1 g1 g2 j1 A hs z1 z2
    refine ⟨fun x o e nb => z2.1 x o (z1.1 x o e nb) fun q => ?_, fun x e => z1.2 x (z2.2 x e)⟩
    rcases A.b x q with r | r
    · exact nb (hs x r)
    · rw [r] at e; cases e
  refine ⟨fun d => ?_, fun d => ?_⟩
  · have d : (j : Int) < 64 := of_decide_eq_true d
    refine Ac.one (sz := 7) (bytes := 56) rfl rfl (by decide) hc1 (by omega) fun tc' g1 Ac1 y1 z1 => ?_
    have Ar1 := Ar.ext y1 (sep Ar Ac (fun x p q => r15.a1 x q p) (fun x p q => (e1 x q).1 p)) Ac.n.new
    have Al1 := Al.ext y1 (sep Al Ac (fun x p q => r15.a2 x q p) (fun x p q => (e1 x q).2 p)) Ac.n.new
    have xg1 := xin Ac (fun x q => .inl q) xg y1
    have drc : ∀ x, blkOf tr x → ¬ blkOf tc' x := grow (fun x p q => (e1 x q).1 p) (fun x p => Ar.n.own.live x p) z1
    have dlc : ∀ x, blkOf tl x → ¬ blkOf tc' x := grow (fun x p q => (e1 x q).2 p) (fun x p => Al.n.own.live x p) z1
    refine Ar1.one (sz := 1) (bytes := 8) rfl rfl (by decide) hr1 (by omega) fun tr' g2 Ar2 y2 z2 => ?_
    have Ac2 := Ac1.ext y2 (sep Ac1 Ar1 (fun x p q => r15.a1 x p q) (fun x p q => drc x q p)) Ar1.n.new
    have Al2 := Al1.ext y2 (sep Al1 Ar1 (fun x p q => r15.a3 x q p) (fun x p q => e2 x q p)) Ar1.n.new
    have xg2 := xin Ar1 (fun x q => .inr (.inl q)) xg1 y2
    have dcr' : ∀ x, blkOf tc' x → ¬ blkOf tr' x := grow (fun x p q => drc x q p) (fun x p => Ac1.n.own.live x p) z2
    have dlr' : ∀ x, blkOf tl x → ¬ blkOf tr' x := grow (fun x p q => e2 x q p) (fun x p => Al1.n.own.live x p) z2
    refine Al2.one (sz := 6) (bytes := 48) rfl rfl (by decide) hl1 (by omega) fun tl' g3 Al3 y3 z3 => ?_
    have Ac3 := Ac2.ext y3 (sep Ac2 Al2 (fun x p q => r15.a2 x p q) (fun x p q => dlc x q p)) Al2.n.new
    have Ar3 := Ar2.ext y3 (sep Ar2 Al2 (fun x p q => r15.a3 x p q) (fun x p q => dlr' x q p)) Al2.n.new
    have xg3 := xin Al2 (fun x q => .inr (.inr q)) xg2 y3
    have dcl' : ∀ x, blkOf tc' x → ¬ blkOf tl' x := grow (fun x p q => dlc x q p) (fun x p => Ac2.n.own.live x p) z3
    have drl' : ∀ x, blkOf tr' x → ¬ blkOf tl' x := grow (fun x p q => dlr' x q p) (fun x p => Ar2.n.own.live x p) z3
    exact hgo (by omega) _ _ (by show w64 ((j : Int) + 1) = _; rw [w64_of] <;> omega) ⟨Ac3, Ar3, Al3, fun x p => ⟨dcr' x p, dcl' x p⟩, drl', xg3⟩
  · have d : ¬ (j : Int) < 64 := of_decide_eq_false d
    obtain rfl : j = 64 := by omega
    have xa : Ext (fpU v15) h g := xf.trans xg
    have k9 := n9.ext xa (fun x p q => d9 x q p) ff
    have k13 := n13.ext xa (fun x p q => d13 x q p) ff
    have k31 := r31.ext xa (fun x p q => d31 x q p) ff
    have k55 := r55.ext xa (fun x p q => d55 x q p) ff
    have end9 : law3_DequePlay.j9 cD cR cC cI cL Q (first, (most, (td, (thieves, (pk, (t9, (t13, (judgeE first most ts thieves ps, (v15, (v31, (v55, ()))))))))))) (false, ()) g := by
      refine ⟨fun e => (by cases e), fun _ => ?_⟩
      subst hR
      exact law_k8 iD iR iC iI iL am aq k9 k13 ap b9 b13 Ac.a Ar.a Al.a lc lr ll k31 hQ
    have n1 := Ac.n.len
    have n2 := Ar.n.len
    have n4 := Al.n.len
    have m1 := Ac.s0.len
    have m2 := Ar.s0.len
    have m3 := Al.s0.len
    rw [List.length_append, List.length_replicate] at n1 n2 n4
    refine ⟨fun e => absurd ?_ (of_decide_eq_true e), fun _ => iC k55.c.arr k31.c.arr lc ⟨fun e => (by cases e), fun _ => iI k55.r.arr k31.r.arr lr ⟨fun e => (by cases e), fun _ => iL k55.l.arr k31.l.arr ll end9⟩⟩⟩
    show w64 (w64 ((tc.len : Int) + (tr.len : Int)) + (tl.len : Int)) = w64 (w64 (w64 ((v15.1.len : Int) + (v15.2.1.len : Int)) + (v15.2.2.1.len : Int)) + 192)
    rw [w64_of (x := (tc.len : Int) + (tr.len : Int)) (by omega) (by omega), w64_of (x := (v15.1.len : Int) + (v15.2.1.len : Int)) (by omega) (by omega), w64_of (x := (v15.1.len : Int) + (v15.2.1.len : Int) + (v15.2.2.1.len : Int)) (by omega) (by omega), w64_of (by omega) (by omega), w64_of (by omega) (by omega)]
    omega
/-- Two plays more. -/
theorem law_k16 {h0 h : Heap} {first most thieves : Int} {td pk t9 t13 : Sl} {v15 v31 : Den KRu} {ts : List DTd} {ps : List Int} {Q : Bool → Heap → Prop} (am : Arr h0 KTd td ts) (aq : Arr h0 ki pk ps) (n9 : New h0 h KTd t9 ts) (n13 : New h0 h ki t13 ps) (ap : Apart t9 t13) (b9 : ts.length ≤ 1000000000) (b13 : ps.length ≤ 1000000000)
    (r15 : ResR h0 h v15 (playL first most ts thieves ps)) (r31 : ResR h0 h v31 (playL first most ts thieves ps)) (d9 : ∀ x, fpU v15 x → ¬ blkOf t9 x) (d13 : ∀ x, fpU v15 x → ¬ blkOf t13 x) (d31 : ∀ x, fpU v15 x → ¬ fpU v31 x) (hQ : ∀ h', le h0 h' → Q true h') :
    law3_DequePlay.k16 cD cR cC cI cL Q (first, (most, (td, (thieves, (pk, (t9, (t13, (judgeE first most ts thieves ps, (v15, (v31, ())))))))))) h := by
  refine iD (am.le n9.le) (aq.le n9.le) fun v55 h1 r55 => ?_
  have l1 := r55.le
  have q9 := n9.len
  have q13 := n13.len
  have c9 := n9.arr.2.1
  have c13 := n13.arr.2.1
  have hd9 : w64 (Int.tdiv (t9.len : Int) 2) = ((t9.len / 2 : Nat) : Int) := by rw [Int.tdiv_eq_ediv_of_nonneg (by omega), w64_of] <;> omega
  have hd13 : w64 (Int.tdiv (t13.len : Int) 2) = ((t13.len / 2 : Nat) : Int) := by rw [Int.tdiv_eq_ediv_of_nonneg (by omega), w64_of] <;> omega
  refine ⟨by decide, ?_, by decide, ?_, ?_⟩
  · show 0 ≤ w64 (Int.tdiv (t9.len : Int) 2) ∧ w64 (Int.tdiv (t9.len : Int) 2) ≤ (t9.cap : Int)
    rw [hd9]; omega
  · show 0 ≤ w64 (Int.tdiv (t13.len : Int) 2) ∧ w64 (Int.tdiv (t13.len : Int) 2) ≤ (t13.cap : Int)
    rw [hd13]; omega
  show cD first most (t9.cut 0 (w64 (Int.tdiv (t9.len : Int) 2)).toNat 2) thieves (t13.cut 0 (w64 (Int.tdiv (t13.len : Int) 2)).toNat 1) h1 _
  rw [hd9, hd13, Int.toNat_natCast, Int.toNat_natCast]
  refine iD ((n9.more l1).arr.pre (n := t9.len / 2) (by omega)) ((n13.more l1).arr.pre (n := t13.len / 2) (by omega)) fun v57 h2 r57 => ?_
  have l2 := l1.trans r57.le
  have end15 : law3_DequePlay.j15 cD cR cC cI cL Q (first, (most, (td, (thieves, (pk, (t9, (t13, (judgeE first most ts thieves ps, (v15, (v31, ())))))))))) (v55, (judgeE first most ts thieves ps, ())) (false, ()) h2 := by
    refine ⟨fun e => (by cases e), fun _ => ?_⟩
    exact law_k14 iD iR iC iI iL am aq (n9.more l2) (n13.more l2) ap b9 b13 (r15.more l2) (r31.more l2) ((r55.base n9.le).more r57.le) d9 d13 d31 (fun x q r => r15.live q (r55.new r)) hQ
  have k15 := r15.more l2
  have k31 := r31.more l2
  refine ⟨fun e => absurd rfl (of_decide_eq_true e), fun _ => ?_⟩
  exact iC k15.c.arr k31.c.arr r15.bc ⟨fun e => (by cases e), fun _ => iI k15.r.arr k31.r.arr r15.br ⟨fun e => (by cases e), fun _ => iL k15.l.arr k31.l.arr r15.bl end15⟩⟩
/-- Lists with room behind their ends. -/
theorem law_k18 {h0 h : Heap} {first most thieves : Int} {td pk t9 t13 : Sl} {v15 v31 : Den KRu} {ts : List DTd} {ps : List Int} {Q : Bool → Heap → Prop} (am : Arr h0 KTd td ts) (aq : Arr h0 ki pk ps) (n9 : New h0 h KTd t9 ts) (n13 : New h0 h ki t13 ps) (ap : Apart t9 t13) (b9 : ts.length ≤ 1000000000) (b13 : ps.length ≤ 1000000000)
    (r15 : ResR h0 h v15 (playL first most ts thieves ps)) (r31 : ResR h0 h v31 (playL first most ts thieves ps)) (d9 : ∀ x, fpU v15 x → ¬ blkOf t9 x) (d13 : ∀ x, fpU v15 x → ¬ blkOf t13 x) (d31 : ∀ x, fpU v15 x → ¬ fpU v31 x) (hQ : ∀ h', le h0 h' → Q true h') :
    law3_DequePlay.k18 cD cR cC cI cL Q (first, (most, (td, (thieves, (pk, (t9, (t13, (judgeE first most ts thieves ps, (v15, (v31, ())))))))))) h := by
  have q9 := n9.len
  have q13 := n13.len
  refine New.mk0 (k := KTd) fun p0 h1 n1 => n1.apps (n9.arr.le n1.le) rfl rfl (by show (0 + t9.len) * 16 ≤ _; omega) fun t37 h2 n2 => ?_
  rw [List.nil_append] at n2
  have q2 := n2.len
  refine n2.app3 (x := (77, (78, ()))) rfl rfl (by omega) fun t41 h3 n3 x3 b3 => ?_
  have n3' : New h h3 KTd t41 (ts ++ [(77, (78, ()))]) := n3
  have l3 := n3'.le
  refine New.mk0 (k := ki) fun p1 h4 n4 => n4.apps (n13.arr.le (l3.trans n4.le)) rfl rfl (by show (0 + t13.len) * 8 ≤ _; omega) fun t45 h5 n5 => ?_
  rw [List.nil_append] at n5
  have q5 := n5.len
  refine n5.app3 (x := (79 : Int)) rfl rfl (by omega) fun t49 h6 n6 x6 b6 => ?_
  have l6 := n6.le
  have g41 := n3'.more l6
  have z41 := g41.len
  have z49 := n6.len
  have y41 := g41.arr.2.1
  have y49 := n6.arr.2.1
  rw [List.length_append, List.length_singleton] at z41 z49
  refine ⟨⟨by omega, (show (t9.len : Int) ≤ (t41.cap : Int) by omega)⟩, ⟨by omega, (show (t13.len : Int) ≤ (t49.cap : Int) by omega)⟩, ?_⟩
  show cD first most (t41.cut 0 ((t9.len : Int)).toNat 2) thieves (t49.cut 0 ((t13.len : Int)).toNat 1) h6 _
  rw [Int.toNat_natCast, Int.toNat_natCast]
  have c41 : Arr h6 KTd (t41.cut 0 t9.len 2) ts := by
    have := g41.arr.pre (n := t9.len) (sz := 2) (by omega)
    rwa [List.take_left' q9] at this
  have c49 : Arr h6 ki (t49.cut 0 t13.len 1) ps := by
    have := n6.arr.pre (n := t13.len) (sz := 1) (by omega)
    rwa [List.take_left' q13] at this
  refine iD c41 c49 fun v51 h7 r51 => ?_
  have l7 := r51.le
  have lall : le h h7 := (l3.trans l6).trans l7
  have g41' := g41.more l7
  have g49' := n6.more l7
  obtain ⟨pa, hpa⟩ := g41'.own.addr (by omega)
  obtain ⟨pb, hpb⟩ := g49'.own.addr (by omega)
  have i41 : (ts ++ [((77, (78, ())) : DTd)])[t9.len]? = some (77, (78, ())) := by rw [List.getElem?_append_right (by omega), q9, Nat.sub_self]; rfl
  have i49 : (ps ++ [(79 : Int)])[t13.len]? = some 79 := by rw [List.getElem?_append_right (by omega), q13, Nat.sub_self]; rfl
  have bd41 : 0 ≤ (t9.len : Int) ∧ (t9.len : Int) < (t41.len : Int) := ⟨by omega, by omega⟩
  have bd49 : 0 ≤ (t13.len : Int) ∧ (t13.len : Int) < (t49.len : Int) := ⟨by omega, by omega⟩
  have end17 : law3_DequePlay.j17 cD cR cC cI cL Q (first, (most, (td, (thieves, (pk, (t9, (t13, (judgeE first most ts thieves ps, (v15, (v31, ())))))))))) (false, ()) h7 :=
    ⟨fun e => (by cases e), fun _ => law_k16 iD iR iC iI iL am aq (n9.more lall) (n13.more lall) ap b9 b13 (r15.more lall) (r31.more lall) d9 d13 d31 hQ⟩
  refine ⟨bd41, ?_⟩
  show deref t41.a _
  rw [hpa]
  refine deref_some3 ?_
  show ld ki h7 ((pa.add (((t9.len : Int)).toNat * 2)).add 0) _
  rw [Int.toNat_natCast]
  refine g41'.arr.ldPart (kp := ki) (y := (77 : Int)) hpa i41 ⟨[], _, rfl, rfl⟩ rfl ⟨fun e => absurd rfl (of_decide_eq_true e), fun _ => ⟨bd41, ?_⟩⟩
  refine deref_some3 ?_
  refine g41'.arr.ldPart (kp := ki) (y := (78 : Int)) hpa i41 ⟨[_], [], rfl, rfl⟩ rfl ⟨fun e => absurd rfl (of_decide_eq_true e), fun _ => ⟨bd49, ?_⟩⟩
  show deref t49.a _
  rw [hpb]
  refine deref_some3 ?_
  show ld ki h7 (pb.add (t13.len * 1)) _
  refine g49'.arr.ldAt hpb i49 rfl ?_
  show law3_DequePlay.j17 _ _ _ _ _ _ _ (decide ((79 : Int) ≠ 79), ()) h7
  rw [decide_eq_false (fun z => z rfl)]
  exact end17
theorem dplay_law {h0 : Heap} {first most thieves : Int} {td pk : Sl} {ts : List DTd} {ps : List Int} {Q : Bool → Heap → Prop} (am : Arr h0 KTd td ts) (aq : Arr h0 ki pk ps) (b9 : ts.length ≤ 1000000000) (b13 : ps.length ≤ 1000000000) (hQ : ∀ h', le h0 h' → Q true h') :
    law3_DequePlay.M cD cR cC cI cL first most td thieves pk h0 Q := by
  have q1 := am.1
  have q2 := aq.1
  refine New.mk0 (k := KTd) fun p0 h1 n1 => n1.apps (am.le n1.le) rfl rfl (by show (0 + td.len) * 16 ≤ _; omega) fun t9 h2 n2 => ?_
  rw [List.nil_append] at n2
  have l2 := n2.le
  refine New.mk0 (k := ki) fun p1 h3 n3 => n3.apps (aq.le (l2.trans n3.le)) rfl rfl (by show (0 + pk.len) * 8 ≤ _; omega) fun t13 h4 n4 => ?_
  rw [List.nil_append] at n4
  have l4 := n4.le
  have n9 := n2.more l4
  have n13 := n4.base l2
  have ap : Apart t9 t13 := fun x q r => n2.own.live x q (n4.new x r)
  have le4 := l2.trans l4
  refine iD (am.le le4) (aq.le le4) fun v15 h5 r15 => ?_
  have l5 := r15.le
  have k9 := n9.more l5
  have k13 := n13.more l5
  have m9 := k9.len
  have m13 := k13.len
  refine cmpL3 (k := KTd) (sz := 2) rfl (tst := fun x y => !(eqK KTd x y)) (fun x => by rw [eqK_refl KTd x rfl]; rfl) (m := t9.len) (am.le (le4.trans l5)) k9.arr (by omega) b9 (Q := Q) (cont := fun g => Loop (law3_DequePlay.l20 cD cR cC cI cL first most td thieves pk Q t9 t13 (v15, (judgeE first most ts thieves ps, ()))) (0, ()) g) ?_ (fun go s g => rfl)
  refine cmpL3 (k := ki) (sz := 1) rfl (tst := fun x y => decide ((x : Int) ≠ y)) (fun x => decide_eq_false (fun z => z rfl)) (m := t13.len) (aq.le (le4.trans l5)) k13.arr (by omega) b13 (Q := Q) (cont := fun h25 => cR first most t9 thieves t13 h25 fun r31 h32 => (((decide (judgeE first most ts thieves ps ≠ r31.2.1)) = true → law3_DequePlay.j19 cD cR cC cI cL first most td thieves pk Q t9 t13 (v15, (judgeE first most ts thieves ps, ())) r31 (true, ()) h32) ∧ ((decide (judgeE first most ts thieves ps ≠ r31.2.1)) = false →
    cC v15.1 r31.1.1 h32 fun r180 h181 => (((!r180) = true → law3_DequePlay.j19 cD cR cC cI cL first most td thieves pk Q t9 t13 (v15, (judgeE first most ts thieves ps, ())) r31 (true, ()) h181) ∧ ((!r180) = false → cI v15.2.1 r31.1.2.1 h181 fun r182 h183 => (((!r182) = true → law3_DequePlay.j19 cD cR cC cI cL first most td thieves pk Q t9 t13 (v15, (judgeE first most ts thieves ps, ())) r31 (true, ()) h183) ∧ ((!r182) = false →
      cL v15.2.2.1 r31.1.2.2.1 h183 fun r184 h185 => law3_DequePlay.j19 cD cR cC cI cL first most td thieves pk Q t9 t13 (v15, (judgeE first most ts thieves ps, ())) r31 ((!r184), ()) h185))))))) ?_ (fun go s g => rfl)
  refine iR k9.arr k13.arr fun v31 h6 r31 => ⟨fun e => absurd rfl (of_decide_eq_true e), fun _ => ?_⟩
  have l6 := r31.le
  have k15 := r15.more l6
  have end19 : law3_DequePlay.j19 cD cR cC cI cL first most td thieves pk Q t9 t13 (v15, (judgeE first most ts thieves ps, ())) (v31, (judgeE first most ts thieves ps, ())) (false, ()) h6 := by
    refine ⟨fun e => (by cases e), fun _ => ?_⟩
    refine law_k18 iD iR iC iI iL am aq (k9.more l6) (k13.more l6) ap b9 b13 (k15.base le4) (r31.base (le4.trans l5)) (fun x q r => ?_) (fun x q r => ?_) (fun x q r => r15.live q (r31.new r)) hQ
    · exact n9.own.live x r (r15.new q)
    · exact n13.own.live x r (r15.new q)
  exact iC k15.c.arr r31.c.arr r15.bc ⟨fun e => (by cases e), fun _ => iI k15.r.arr r31.r.arr r15.br ⟨fun e => (by cases e), fun _ => iL k15.l.arr r31.l.arr r15.bl end19⟩⟩
end
end Go.Mx
