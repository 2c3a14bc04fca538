/-
  The law BuffersCalm.
-/
import Derived.Test.YthkjfdbmkggemaaMxGa
import Derived.Test.YthkjfdbmkggemaaMxBn
set_option linter.unusedVariables false
set_option linter.unusedSimpArgs false
set_option linter.unusedSectionVars false
namespace Go.Mx

abbrev nzG (l : List Nat) : List Int := l.map fun (n : Nat) => (n : Int)
theorem nzG_get {l : List Nat} {w n : Nat} (h : l[w]? = some n) : (nzG l)[w]? = some (n : Int) := by rw [List.getElem?_map, h]; rfl
theorem nzG_set (l : List Nat) (w n : Nat) : (nzG l).set w (n : Int) = nzG (l.set w n) := by unfold nzG; rw [List.map_set]
def PrivC (c : Sl → Heap → (Sl → Heap → Prop) → Prop) : Prop := ∀ {lists : Sl} {h : Heap} {ls : List (List AMv)} {Q : Sl → Heap → Prop}, Arr2 h KMv lists ls → ls.length ≤ 8 → (∀ l ∈ ls, l.length ≤ 1000) → (∀ t h', Arr2 h' KMv t (privP ls) → Go.Mx.le h h' → Q t h') → c lists h Q
theorem priv_spec {cm : Int → Int → Heap → (Int → Heap → Prop) → Prop} (iM : ModC cm) : PrivC (law21_private.M cm) := by
  intro lists h ls Q hl h8 h1000 hQ
  have hll := hl.len
  obtain ⟨sls, l1, l2, l3⟩ := hl
  refine Loop.up ls.length (fun s => s.2.1) (fun i s g => ∃ els, New h g .sl s.1 els ∧ els.length = i ∧ (∀ (j : Nat) sl xs, els[j]? = some sl → (privP ls)[j]? = some xs → New h g KMv sl xs) ∧ ∀ sl ∈ els, ∀ x, blkOf sl x → ¬ blkOf s.1 x) rfl ⟨[], New.nil h .sl, rfl, fun j sl xs e => (by cases e), fun sl e => (by cases e)⟩ ?_
  rintro i ⟨m, i', u⟩ g go hi hc ⟨els, n, el, ea, ed⟩ hgo
  dsimp only at hc n ed; subst hc
  have ml := n.len
  refine ⟨fun e => ?_, fun e => ?_⟩
  · have hlt : (i : Int) < (lists.len : Int) := of_decide_eq_true e
    clear e
    have hil : i < ls.length := by omega
    obtain ⟨sl, hsl⟩ : ∃ sl, sls[i]? = some sl := ⟨sls[i]'(by omega), by simp⟩
    have hxi : ls[i]? = some (ls.getD i []) := by rw [List.getD_eq_getElem?_getD]; simp [hil]
    have lr := l3 i _ _ hsl hxi
    have x1000 : (ls.getD i []).length ≤ 1000 := h1000 _ (List.mem_of_getElem? hxi)
    have hpi := privP_get hil
    generalize ls.getD i [] = X at hxi lr x1000 hpi
    have lrl := lr.1
    obtain ⟨la, ln, lc⟩ := lists
    dsimp only at hlt hll
    cases la with
    | none => obtain ⟨a, e⟩ := l1.addr (by dsimp only; omega); cases e
    | some la =>
    have hbi : 0 ≤ (i : Int) ∧ (i : Int) < (ln : Int) := ⟨by omega, hlt⟩
    refine Loop.up X.length (fun s => s.2.1) (fun k s g' => New g g' KMv s.1 ((X.take k).map (privA i))) rfl (New.nil g KMv) ?_
    rintro k ⟨row, k', u2⟩ g1 go2 hk hc n1 hgo2
    dsimp only at hc n1; subst hc
    have n1l := n1.len
    have tl := List.length_take_le k X
    rw [List.length_map] at n1l
    have lg1 := n.le.trans n1.le
    have rL : ∀ {g' : Heap} {K : Sl → Prop}, Go.Mx.le h g' → K sl → ld .sl g' (la.add (i * 1)) K := fun l h => (l1.le l).ldAt rfl hsl rfl h
    refine ⟨hbi, rL lg1 ⟨fun d => ?_, fun d => ?_⟩⟩
    · have hkt : (k : Int) < (sl.len : Int) := of_decide_eq_true d
      clear d
      have hkX : k < X.length := by omega
      obtain ⟨xa, xn, xc⟩ := sl
      dsimp only at hkt lrl
      cases xa with
      | none => obtain ⟨a, e⟩ := lr.addr (by dsimp only; omega); cases e
      | some xa =>
      have hbk : 0 ≤ (k : Int) ∧ (k : Int) < (xn : Int) := ⟨by omega, hkt⟩
      have hx : X[k]? = some X[k] := by simp [hkX]
      have hsn : (X.take (k + 1)).map (privA i) = (X.take k).map (privA i) ++ [privA i X[k]] := by rw [take_succ' X hkX, List.map_append]; rfl
      generalize X[k] = x at hx hsn
      obtain ⟨t0, t1, t2, t3, t4, tu⟩ := x
      change Int at t1 t2
      have next : w64 ((k : Int) + 1) = ((k + 1 : Nat) : Int) := by rw [w64_of] <;> omega
      have put : ∀ {y : AMv}, y = privA i (t0, (t1, (t2, (t3, (t4, tu))))) → law21_private.j2 go2 (row, ((k : Int), u2)) (y, ()) g1 := by
        rintro y rfl
        refine n1.app3 rfl rfl (by omega) fun t3 h3 n3 x3 b3 => hgo2 hkX _ _ next ?_
        rw [hsn]; exact n3
      have fin : ∀ b : Bool, b = decide (t1 = 1 ∨ 4 ≤ t2 % 8) → law21_private.j3 cm (m, ((i : Int), u)) go2 (row, ((k : Int), u2)) (t0, (t1, (t2, (t3, (t4, tu))))) (b, ()) g1 := by
        rintro b rfl
        refine iM (by decide) (by decide) ⟨fun e => ?_, fun e => ?_⟩
        · have e : t1 = 1 ∨ 4 ≤ t2 % 8 := of_decide_eq_true e
          refine put ?_
          unfold privA
          dsimp only
          rw [if_pos e, w64_of (x := t2 % 4 + 4) (by omega) (by omega), w64_of (x := 4 * (i : Int)) (by omega) (by omega), w64_of (by omega) (by omega)]
        · have e : ¬ (t1 = 1 ∨ 4 ≤ t2 % 8) := of_decide_eq_false e
          refine put ?_
          unfold privA
          dsimp only
          rw [if_neg e]
      refine ⟨hbi, rL lg1 ⟨hbk, (lr.le lg1).ldAt rfl hx rfl ⟨fun z => ?_, fun z => ?_⟩⟩⟩
      · have z : t1 = 1 := of_decide_eq_true z
        exact fin true (by rw [decide_eq_true (.inl z)])
      · have z : ¬ t1 = 1 := of_decide_eq_false z
        refine iM (by decide) (by decide) (fin _ ?_)
        exact decide_eq_decide.2 ⟨.inr, fun q => q.resolve_left z⟩
    · have d : ¬ (k : Int) < (sl.len : Int) := of_decide_eq_false d
      rw [List.take_of_length_le (by omega)] at n1
      have nm := n.more n1.le
      refine nm.app3 rfl rfl (by omega) fun t2 h2 n2 x2 b2 => ?_
      have tm : ∀ x, blkOf row x → ¬ blkOf m x := fun x p q => n.own.live x q (n1.new x p)
      refine hgo (by omega) _ _ (by show w64 ((i : Int) + 1) = _; rw [w64_of] <;> omega) ⟨els ++ [row], n2, by rw [List.length_append, el]; rfl, fun j s xs e1 e2 => ?_, fun s hs x p q => ?_⟩
      · by_cases hj : j < i
        · rw [List.getElem?_append_left (by omega)] at e1
          exact ((ea j s xs e1 e2).more n1.le).ext x2 (fun x p q => ed s (List.mem_of_getElem? e1) x p q) n.new
        · have := (List.getElem?_eq_some_iff.1 e1).1
          rw [List.length_append, el] at this
          obtain rfl : j = i := by simp at this; omega
          rw [List.getElem?_append_right (by omega), el, Nat.sub_self] at e1
          obtain rfl : row = s := by simpa using e1
          rw [hpi] at e2
          cases e2
          exact (n1.base n.le).ext x2 tm n.new
      · rcases List.mem_append.1 hs with hs | hs
        · rcases b2 x q with q | q
          · exact ed s hs x p q
          · obtain ⟨j, hj⟩ := List.mem_iff_getElem?.1 hs
            have hjl := (List.getElem?_eq_some_iff.1 hj).1
            exact ((ea j s _ hj (privP_get (by omega))).more n1.le).own.live x p q
        · obtain rfl : s = row := by simpa using hs
          rcases b2 x q with q | q
          · exact tm x p q
          · exact n1.own.live x p q
  · have e : ¬ (i : Int) < (lists.len : Int) := of_decide_eq_false e
    exact hQ m g ⟨els, n.arr, by rw [privP_len]; omega, fun j sl xs e1 e2 => (ea j sl xs e1 e2).arr⟩ n.le

theorem nfE_cons (p : AMv × Eff) (l : List (AMv × Eff)) : nfE (p :: l) = if p.1.2.1 = 5 then nfE l else p.2 :: nfE l := by
  unfold nfE
  rw [List.filter_cons]
  by_cases q : p.1.2.1 = 5
  · simp [q]
  · simp [q]
theorem whE_cons (w : Nat) (p : Nat × Eff) (l : List (Nat × Eff)) : whE w (p :: l) = if p.1 = w then p.2 :: whE w l else whE w l := by
  unfold whE
  rw [List.filter_cons]
  by_cases q : p.1 = w
  · simp [q]
  · simp [q]
theorem PB.size_step (ls : List (List AMv)) (s : PB) (x : Int) : (PB.step ls s x).m.sz = s.m.sz := by
  unfold PB.step
  dsimp only
  split
  · exact (BM.flush_same _ _).2.2.1
  · split
    · exact (BM.act_n _ _ _).2.2.1
    · rfl
theorem PB.size_run (ls : List (List AMv)) : ∀ (ps : List Int) (s : PB), (PB.run ls s ps).m.sz = s.m.sz
  | [], _ => rfl
  | x :: ps, s => (PB.size_run ls ps _).trans (PB.size_step ls s x)
def leftG (ls : List (List AMv)) (s : PB) (w n : Nat) : List (AMv × Eff) := ((ls.getD w []).zip (s.e.getD w [])).drop n
theorem leftG_len {ls : List (List AMv)} {s : PB} {L : Nat} (ok : s.Ok ls L) (w n : Nat) : (leftG ls s w n).length = (s.e.getD w []).length - n := by
  unfold leftG
  have := ok.er w
  rw [List.length_drop, List.length_zip]; omega
theorem leftG_cons {ls : List (List AMv)} {s : PB} {L : Nat} (ok : s.Ok ls L) {w n : Nat} (h : n < (s.e.getD w []).length) : ∃ t f, (ls.getD w [])[n]? = some t ∧ (s.e.getD w [])[n]? = some f ∧ leftG ls s w n = (t, f) :: leftG ls s w (n + 1) := by
  have h1 := ok.er w
  have hz : n < ((ls.getD w []).zip (s.e.getD w [])).length := by rw [List.length_zip]; omega
  refine ⟨(ls.getD w [])[n]'(by omega), (s.e.getD w [])[n], by simp, by simp, ?_⟩
  unfold leftG
  rw [List.drop_eq_getElem_cons hz, List.getElem_zip]

/-- What the last loop keeps. -/
def LG (ls : List (List AMv)) (st : PB) (z : List (Nat × Eff)) (a : List Nat) : Prop := a.length = ls.length ∧ ∀ w, w < ls.length → ∃ m, a[w]? = some m ∧ m ≤ (st.e.getD w []).length ∧ nfE (leftG ls st w m) = whE w z
theorem LG.set {ls : List (List AMv)} {st : PB} {z z' : List (Nat × Eff)} {a : List Nat} (li : LG ls st z a) {w m : Nat} (hw : w < ls.length) (hm : m ≤ (st.e.getD w []).length) (ht : nfE (leftG ls st w m) = whE w z') (ho : ∀ v, v ≠ w → whE v z' = whE v z) : LG ls st z' (a.set w m) := by
  refine ⟨by rw [List.length_set]; exact li.1, fun v hv => ?_⟩
  by_cases e : v = w
  · subst e
    exact ⟨m, by rw [List.getElem?_set_self (by rw [li.1]; exact hw)], hm, ht⟩
  · obtain ⟨m', a1, a2, a3⟩ := li.2 v hv
    exact ⟨m', by rw [List.getElem?_set_ne (fun q => e q.symm)]; exact a1, a2, by rw [a3, ho v e]⟩
structure GX (hR : Heap) (ls : List (List AMv)) (st : PB) (l e : Sl) (sls els : List Sl) : Prop where
  l1 : Arr hR .sl l sls
  ll : sls.length = ls.length
  lr : ∀ (i : Nat) sl, sls[i]? = some sl → Arr hR KMv sl (ls.getD i [])
  e1 : Arr hR .sl e els
  el : els.length = ls.length
  er : ∀ (i : Nat) sl, els[i]? = some sl → Arr hR KEf sl (st.e.getD i [])
  ok : st.Ok ls 80000000
  x4 : ∀ w, (ls.getD w []).length ≤ 4096
  n1 : 1 ≤ ls.length
  n8 : ls.length ≤ 8
  pv : ∀ w, ∀ t ∈ ls.getD w [], PrivA w t

section
variable {hR : Heap} {ls : List (List AMv)} {st : PB} {la ea : Addr} {ln lc en ec : Nat} {sls els : List Sl} (X : GX hR ls st ⟨some la, ln, lc⟩ ⟨some ea, en, ec⟩ sls els) {Q : Bool → Heap → Prop} {pe od wo s66 : Sl} {es : List Eff} {wh : List Nat} {sa : Addr} {sn sc : Nat} {rr : Sl × (Sl × (Sl × (Bool × Unit)))} {e0 : Int} {u0 : Unit} {pr : Sl × (Sl × Unit)} {e1 : Int} {u1 : Unit} {iu : Int × Unit}
include X
theorem calm_skip {hC : Heap} (lC : Go.Mx.le hR hC) (hpe : Arr hC KEf pe (ef 0 0 :: es)) (hle : es.length ≤ 2000) (hlw : wh.length = es.length) {i w : Nat} (hi : wh[i]? = some w) (hw : w < ls.length) {go : (Int × Unit) → Heap → Prop} {u3 : Unit} {a0 : List Nat} {g0 : Heap} (n0 : New hC g0 ki ⟨some sa, sn, sc⟩ (nzG a0)) (li0 : LG ls st ((wh.zip es).drop i) a0)
    (hgo : ∀ a g, New hC g ki ⟨some sa, sn, sc⟩ (nzG a) → LG ls st ((wh.zip es).drop (i + 1)) a → go (((i + 1 : Nat) : Int), ()) g) :
    Loop (law21_BuffersCalm.l4 Q ⟨some la, ln, lc⟩ ((⟨some ea, en, ec⟩, rr), (e0, u0)) ((pe, pr), (e1, u1)) ⟨some sa, sn, sc⟩ go ((i : Int), u3) (w : Int)) () g0 := by
  have hil := (List.getElem?_eq_some_iff.1 hi).1
  have hdrop : (wh.zip es).drop i = (w, es[i]'(by omega)) :: (wh.zip es).drop (i + 1) := by
    rw [List.drop_eq_getElem_cons (by rw [List.length_zip]; omega), List.getElem_zip, (List.getElem?_eq_some_iff.1 hi).2]
  have hes : es[i]? = some (es[i]'(by omega)) := by simp
  generalize es[i]'(by omega) = fe at hdrop hes
  have hpe1 : (ef 0 0 :: es)[i + 1]? = some fe := hes
  have pel := hpe.1
  rw [List.length_cons] at pel
  have lln := X.l1.1
  have eln := X.e1.1
  have ll := X.ll
  have el := X.el
  dsimp only at lln eln
  obtain ⟨lsl, hli⟩ : ∃ sl, sls[w]? = some sl := ⟨sls[w]'(by omega), by simp⟩
  obtain ⟨esl, hei⟩ : ∃ sl, els[w]? = some sl := ⟨els[w]'(by omega), by simp⟩
  have hX := X.lr w _ hli
  have hE := X.er w _ hei
  have her := X.ok.er w
  have hx4 := X.x4 w
  have hxl := hX.1
  have hel := hE.1
  refine Loop.idxB (st.e.getD w []).length (fun j _ g => ∃ a m, New hC g ki ⟨some sa, sn, sc⟩ (nzG a) ∧ LG ls st ((wh.zip es).drop i) a ∧ a[w]? = some m ∧ j ≤ m) (by
    obtain ⟨m, h1, _⟩ := li0.2 w hw
    exact ⟨a0, m, n0, li0, h1, Nat.zero_le _⟩) ?_
  rintro j ⟨⟩ g go58 hj ⟨a, m, n, li, hm, him⟩ hgo58
  obtain ⟨m', hm', hmE, ht⟩ := li.2 w hw
  rw [hm] at hm'
  cases hm'
  rw [hdrop, whE_cons, if_pos rfl] at ht
  have hmlt : m < (st.e.getD w []).length := by
    refine Nat.lt_of_not_le fun q => ?_
    have : leftG ls st w m = [] := List.length_eq_zero_iff.1 (by rw [leftG_len X.ok]; omega)
    rw [this] at ht
    cases ht
  obtain ⟨t, f, htx, hfx, hl⟩ := leftG_cons X.ok hmlt
  rw [hl, nfE_cons] at ht
  have lgC := n.le
  have lg := lC.trans lgC
  have al := n.len
  have nzl : (nzG a).length = a.length := List.length_map ..
  have ali := li.1
  dsimp only at al
  have hbA : 0 ≤ (w : Int) ∧ (w : Int) < (sn : Int) := ⟨by omega, by omega⟩
  have hbE : 0 ≤ (w : Int) ∧ (w : Int) < (en : Int) := ⟨by omega, by omega⟩
  have hbL : 0 ≤ (w : Int) ∧ (w : Int) < (ln : Int) := ⟨by omega, by omega⟩
  have hbm : 0 ≤ (m : Int) ∧ (m : Int) < (lsl.len : Int) := ⟨by omega, by omega⟩
  have hbf : 0 ≤ (m : Int) ∧ (m : Int) < (esl.len : Int) := ⟨by omega, by omega⟩
  obtain ⟨xa, xn, xc⟩ := lsl
  obtain ⟨fa, fn, fc⟩ := esl
  obtain ⟨pa, pn, pc⟩ := pe
  dsimp only at hbm hbf hxl hel pel
  cases xa with
  | none => obtain ⟨a, e⟩ := hX.addr (by dsimp only; omega); cases e
  | some xa =>
  cases fa with
  | none => obtain ⟨a, e⟩ := hE.addr (by dsimp only; omega); cases e
  | some fa =>
  cases pa with
  | none => obtain ⟨a, e⟩ := hpe.addr (by dsimp only; omega); cases e
  | some pa =>
  have rA : ∀ {K : Int → Prop}, K (m : Int) → ld ki g (sa.add (w * 1)) K := fun h => n.arr.ldAt rfl (nzG_get hm) rfl h
  have rL : ∀ {K : Sl → Prop}, K ⟨some xa, xn, xc⟩ → ld .sl g (la.add (w * 1)) K := fun h => (X.l1.le lg).ldAt rfl hli rfl h
  have rE : ∀ {K : Sl → Prop}, K ⟨some fa, fn, fc⟩ → ld .sl g (ea.add (w * 1)) K := fun h => (X.e1.le lg).ldAt rfl hei rfl h
  have next : w64 ((m : Int) + 1) = ((m + 1 : Nat) : Int) := by rw [w64_of] <;> omega
  have nexti : w64 ((i : Int) + 1) = ((i + 1 : Nat) : Int) := by rw [w64_of] <;> omega
  have stp : ∀ {K : Heap → Prop}, (∀ g', New hC g' ki ⟨some sa, sn, sc⟩ (nzG (a.set w (m + 1))) → K g') → Go.Mx.st ki g (sa.add (w * 1)) (w64 ((m : Int) + 1)) K := fun hK => n.stAt rfl (by omega) rfl rfl fun g' n' _ => hK g' (by rw [next, nzG_set] at n'; exact n')
  refine ⟨hbL, hbA, rL (rA ⟨hbm, (hX.le lg).ldPart (kp := ki) (off := 1) (y := t.2.1) rfl htx ⟨[_], _, rfl, rfl⟩ rfl ⟨fun z => ?_, fun z => ?_⟩⟩)⟩
  · have z : t.2.1 = 5 := of_decide_eq_true z
    refine ⟨hbA, rA ⟨hbA, stp fun g' n' => hgo58 (by omega) _ _ ⟨_, m + 1, n', li.set hw hmlt ?_ (fun _ _ => rfl), by rw [List.getElem?_set_self (by omega)], by omega⟩⟩⟩
    rw [if_pos z] at ht
    rw [ht, hdrop, whE_cons, if_pos rfl]
  · have z : ¬ t.2.1 = 5 := of_decide_eq_false z
    rw [if_neg z] at ht
    obtain ⟨ht1, ht2⟩ := List.cons.inj ht
    have ht1 : f = fe := ht1
    subst ht1
    have hbp : 0 ≤ w64 ((i : Int) + 1) ∧ w64 ((i : Int) + 1) < (pn : Int) := by rw [nexti]; exact ⟨by omega, by omega⟩
    refine ⟨hbA, hbE, rE (rA ⟨hbf, (hE.le lg).ldAt rfl hfx rfl ⟨hbp, ?_⟩⟩)⟩
    show ld KEf g (pa.add ((w64 ((i : Int) + 1)).toNat * 3)) _
    rw [nexti]
    refine (hpe.le lgC).ldAt (i := i + 1) rfl hpe1 rfl ⟨fun d => ?_, fun _ => ⟨hbA, rA ⟨hbA, stp fun g' n' => ?_⟩⟩⟩
    · have : eqK KEf f f = true := eqK_refl KEf _ rfl
      have d : (!(eqK KEf f f)) = true := d
      rw [this] at d; cases d
    · refine hgo _ _ n' (li.set hw hmlt ht2 fun v hv => ?_)
      rw [hdrop, whE_cons, if_neg (fun (q : w = v) => hv q.symm)]
theorem calm_tail {co : Int → Sl → Heap → (Sl → Heap → Prop) → Prop} {cc : Int → Sl → Heap → ((Den KCr × (Int × Unit)) → Heap → Prop) → Prop} (iO : OpnC co) (iC : CPlayC cc) {odl : List AMv} (hod : odl.length ≤ 2000) {g : Heap} (lg : Go.Mx.le hR g) (nod : Arr g KMv od odl) (nwo : Arr g ki wo (nzG wh)) (hww : ∀ w ∈ wh, w < ls.length) (ci : CalI ls st odl wh) (hsz : st.m.sz = 4 + 4 * (ls.length : Int)) (hQ : ∀ h', Go.Mx.le hR h' → Q true h') {sz : Int} (hs : sz = 4 + 4 * (ls.length : Int)) {s17 : Sl} :
    co sz od g fun r60 h61 => cc sz r60 h61 fun r62 h63 =>
    (((decide (r62.2.1 ≠ 0)) = true →
    law21_BuffersCalm.j7 Q ⟨some la, ln, lc⟩ ((⟨some ea, en, ec⟩, rr), (e0, u0)) (od, (wo, iu)) r62 (true, ()) h63) ∧
    ((decide (r62.2.1 ≠ 0)) = false →
    law21_BuffersCalm.j7 Q ⟨some la, ln, lc⟩ ((⟨some ea, en, ec⟩, rr), (e0, u0)) (od, (wo, iu)) r62 ((decide ((r62.1.1.len : Int) ≠ (w64 ((od.len : Int) + 1)))), ()) h63)) := by
  have n8 := X.n8
  have lln := X.l1.1
  have ll := X.ll
  dsimp only at lln
  refine iO nod (by omega) fun t1 h1 n1 => ?_
  have n1 : New g h1 KMv t1 (opn sz odl) := n1
  have o3 : (opn sz odl).length = 1 + odl.length := by
    unfold opn
    rw [List.length_append, if_pos (by omega)]; rfl
  refine iC n1.arr (by omega) (by omega) (by omega) fun p h2 a1 _ _ => ?_
  have a1 : New h1 h2 KEf p.1 (CA.run sz ⟨[], [], []⟩ (opn sz odl)).es := a1
  have hes : (CA.run sz ⟨[], [], []⟩ (opn sz odl)).es = ef 0 0 :: (CA.run st.m.sz (cal0 ls.length) odl).es := by
    rw [opn_es (by omega) (Int.le_refl _), if_pos (by omega), crun_E, hsz, ← hs]
    unfold cal0
    rw [show sz.toNat = 4 + 4 * ls.length by omega]; rfl
  rw [hes] at a1
  have cel := ci.el
  have clw := ci.lw
  have ceff := ci.eff
  generalize (CA.run st.m.sz (cal0 ls.length) odl).es = es at a1 cel ceff
  have a1l := a1.len
  rw [List.length_cons] at a1l
  have odn := nod.1
  have l12 := n1.le.trans a1.le
  refine ⟨fun d => (by cases d), fun _ => ?_⟩
  obtain ⟨pe', pr'⟩ := p
  dsimp only at a1 a1l
  show law21_BuffersCalm.j7 Q _ _ _ _ (decide ((pe'.len : Int) ≠ w64 ((od.len : Int) + 1)), ()) h2
  rw [decide_eq_false (by rw [w64_of (by omega) (by omega)]; omega)]
  refine ⟨fun e => (by cases e), fun _ => ?_⟩
  refine make_new (n := (ln : Int)) (c := (ln : Int)) (by omega) (Int.le_refl _) (by show ((8 : Nat) : Int) * (ln : Int) ≤ _; omega) (by omega) fun s h3 n _ _ hs3 => ?_
  obtain ⟨sa, sn, sc⟩ := s
  cases sa with
  | none => exact absurd rfl hs3
  | some sa =>
  have hz : List.replicate ((ln : Int)).toNat (Kd.zero ki) = nzG (List.replicate ls.length 0) := by
    rw [Int.toNat_natCast, ← lln, ll]
    show _ = List.map _ _
    rw [List.map_replicate]; rfl
  rw [hz] at n
  refine Loop.up odl.length (fun s => s.1) (fun i s g' => ∃ a, New h2 g' ki ⟨some sa, sn, sc⟩ (nzG a) ∧ LG ls st ((wh.zip es).drop i) a) rfl ⟨_, n, List.length_replicate .., fun w hw => ⟨0, by rw [List.getElem?_replicate, if_pos hw], Nat.zero_le _, ceff w⟩⟩ ?_
  rintro i ⟨i', u3⟩ g1 go hi hc ⟨a, na, li⟩ hgo
  dsimp only at hc; subst hc
  have l2 : Go.Mx.le hR h2 := lg.trans l12
  refine ⟨fun d => ?_, fun _ => hQ g1 (l2.trans na.le)⟩
  have d : (i : Int) < (od.len : Int) := of_decide_eq_true d
  have hio : i < odl.length := by omega
  have wol := nwo.1
  rw [List.length_map] at wol
  have hwi : wh[i]? = some (wh[i]'(by omega)) := by simp
  have hw := hww _ (List.mem_of_getElem? hwi)
  generalize wh[i]'(by omega) = w at hwi hw
  have hb : 0 ≤ (i : Int) ∧ (i : Int) < (wo.len : Int) := ⟨by omega, by omega⟩
  refine ⟨hb, ((nwo.le l12).le na.le).at (i := (i : Int)) (by omega) hb.2 rfl fun y hy => ?_⟩
  rw [Int.toNat_natCast, nzG_get hwi] at hy
  cases hy
  exact calm_skip X l2 a1.arr (by omega) (by omega) hwi hw na li fun a' g' n' li' => hgo hio _ _ rfl ⟨a', n', li'⟩
theorem calm_loop {cm : Int → Int → Heap → (Int → Heap → Prop) → Prop} {co : Int → Sl → Heap → (Sl → Heap → Prop) → Prop} {cc : Int → Sl → Heap → ((Den KCr × (Int × Unit)) → Heap → Prop) → Prop} (iM : ModC cm) (iO : OpnC co) (iC : CPlayC cc) {s0 : PB} {qs : List Int} {pk : Sl} {up : Unit} (hst : PB.run ls s0 qs = st) (ok0 : s0.Ok ls 0) (he0 : s0.e = List.replicate ls.length []) (ci0 : CalI ls s0 [] []) (hsz : st.m.sz = 4 + 4 * (ls.length : Int)) (hq : qs.length ≤ 2000) (hp : Arr hR ki pk qs) (hQ : ∀ h', Go.Mx.le hR h' → Q true h') :
    law21_BuffersCalm.j9 cm co cc Q ⟨some la, ln, lc⟩ (pk, up) ((⟨some ea, en, ec⟩, rr), (e0, u0)) () hR := by
  have n1 := X.n1
  have n8 := X.n8
  have lln := X.l1.1
  have ll := X.ll
  dsimp only at lln
  have pkn := hp.1
  refine make_new (n := (ln : Int)) (c := (ln : Int)) (by omega) (Int.le_refl _) (by show ((8 : Nat) : Int) * (ln : Int) ≤ _; omega) (by omega) fun s h3 n _ _ hs3 => ?_
  obtain ⟨sa, sn, sc⟩ := s
  cases sa with
  | none => exact absurd rfl hs3
  | some sa =>
  have hz : List.replicate ((ln : Int)).toNat (Kd.zero ki) = nzG (s0.e.map List.length) := by
    rw [Int.toNat_natCast, ← lln, ll, he0, List.map_replicate]
    show _ = List.map _ _
    rw [List.map_replicate]; rfl
  rw [hz] at n
  refine Loop.up qs.length (fun s => s.2.2.1) (fun i s g => ∃ odl whl, New hR g KMv s.1 odl ∧ New hR g ki s.2.1 (nzG whl) ∧ New hR g ki ⟨some sa, sn, sc⟩ (nzG ((PB.run ls s0 (qs.take i)).e.map List.length)) ∧ (∀ x, blkOf s.1 x → ¬ blkOf s.2.1 x) ∧ (∀ x, blkOf s.1 x → ¬ blkOf ⟨some sa, sn, sc⟩ x) ∧ (∀ x, blkOf s.2.1 x → ¬ blkOf ⟨some sa, sn, sc⟩ x) ∧ CalI ls (PB.run ls s0 (qs.take i)) odl whl ∧ odl.length ≤ i ∧ ∀ w ∈ whl, w < ls.length) rfl
    ⟨[], [], New.none n.le KMv, New.none n.le ki, n, fun x q => (no_blk q).elim, fun x q => (no_blk q).elim, fun x q => (no_blk q).elim, ci0, Nat.le_refl _, fun w hw => (by cases hw)⟩ ?_
  rintro i ⟨od, wo, i', u3⟩ g go hi hc ⟨odl, whl, no, nw, na, d1, d2, d3, ci, hol, hww⟩ hgo
  dsimp only at hc no nw d1 d2 d3; subst hc
  have oki := ok0.run (qs.take i)
  have lw := ci.lw
  have oln := no.len
  have wln := nw.len
  rw [List.length_map] at wln
  refine ⟨fun d => ?_, fun d => ?_⟩
  · have hip : (i : Int) < (pk.len : Int) := of_decide_eq_true d
    clear d
    have hiq : i < qs.length := by omega
    have hb : 0 ≤ (i : Int) ∧ (i : Int) < (pk.len : Int) := ⟨by omega, hip⟩
    have next : w64 ((i : Int) + 1) = ((i + 1 : Nat) : Int) := by rw [w64_of] <;> omega
    refine ⟨hb, (hp.le no.le).at (i := (i : Int)) (by omega) hip rfl fun x hx => ?_⟩
    rw [Int.toNat_natCast] at hx
    obtain rfl : qs[i] = x := by simpa [hiq] using hx
    have w2n : w64 (2 * (ln : Int)) = 2 * (ls.length : Int) := by rw [w64_of] <;> omega
    show cm qs[i] (w64 (2 * (ln : Int))) g _
    rw [w2n]
    refine iM (by omega) (by omega) ?_
    have hrun := run_succ (s := s0) (ls := ls) hiq
    have hr := mod_rangeB (x := qs[i]) (n := 2 * (ls.length : Int)) (by omega)
    obtain ⟨k, hk⟩ := Int.eq_ofNat_of_zero_le hr.1
    have hkt : (qs[i] % (2 * (ls.length : Int))).toNat = k := by rw [hk]; rfl
    rw [hk]
    generalize PB.run ls s0 (qs.take i) = sti at oki hrun ci na
    have okel := oki.el
    have oken := oki.n
    have idle : PB.step ls sti qs[i] = sti → law21_BuffersCalm.j1 go (od, (wo, ((i : Int), u3))) (od, (wo, ())) g := by
      intro z
      refine hgo hiq _ _ next ⟨odl, whl, no, nw, ?_, d1, d2, d3, ?_, by omega, hww⟩
      · rw [hrun, z]; exact na
      · rw [hrun, z]; exact ci
    refine ⟨fun d => ?_, fun d => ?_⟩
    · have d : (k : Int) < (ln : Int) := of_decide_eq_true d
      have hkl : k < ls.length := by omega
      have nal := na.len
      rw [List.length_map, List.length_map] at nal
      dsimp only at nal
      obtain ⟨lsl, hli⟩ : ∃ sl, sls[k]? = some sl := ⟨sls[k]'(by omega), by simp⟩
      have hX := X.lr k _ hli
      have hxl := hX.1
      have hx4 := X.x4 k
      have hat : (sti.e.map List.length)[k]? = some (sti.e.getD k []).length := by
        rw [List.getElem?_map, List.getD_eq_getElem?_getD, List.getElem?_eq_getElem (by omega)]; rfl
      have her := oki.er k
      have hbA : 0 ≤ (k : Int) ∧ (k : Int) < (sn : Int) := ⟨by omega, by omega⟩
      have hbL : 0 ≤ (k : Int) ∧ (k : Int) < (ln : Int) := ⟨by omega, by omega⟩
      have lg := no.le
      have rL : ∀ {K : Sl → Prop}, K lsl → ld .sl g (la.add (k * 1)) K := fun h => (X.l1.le lg).ldAt rfl hli rfl h
      generalize hm : (sti.e.getD k []).length = m at hat her
      have rA : ∀ {K : Int → Prop}, K (m : Int) → ld ki g (sa.add (k * 1)) K := fun h => na.arr.ldAt rfl (nzG_get hat) rfl h
      have nextm : w64 ((m : Int) + 1) = ((m + 1 : Nat) : Int) := by rw [w64_of] <;> omega
      refine ⟨hbA, hbL, rA (rL ?_)⟩
      by_cases q : (m : Int) < (lsl.len : Int)
      · show law21_BuffersCalm.j3 _ _ go _ _ (decide ((m : Int) < (lsl.len : Int)), ()) g
        rw [decide_eq_true q]
        refine ⟨fun _ => ?_, fun e => (by cases e)⟩
        have htx : (ls.getD k [])[m]? = some ((ls.getD k [])[m]'(by omega)) := by simp
        have hpv := X.pv k _ (List.mem_of_getElem? htx)
        generalize (ls.getD k [])[m]'(by omega) = t at htx hpv
        have hs := PB.step_act (ls := ls) (s := sti) (x := qs[i]) hkt hkl (t := t) (by rw [hm]; exact htx)
        have ca := ci.act oki hkl (t := t) (by rw [hm]; exact htx) hpv
        rw [← hs] at ca
        have hlen : (PB.step ls sti qs[i]).e.map List.length = (sti.e.map List.length).set k (m + 1) := by
          rw [hs]
          show (sti.e.set k _).map List.length = _
          rw [List.map_set, List.length_append, hm]; rfl
        obtain ⟨xa, xn, xc⟩ := lsl
        dsimp only at q hxl
        cases xa with
        | none => obtain ⟨a, e⟩ := hX.addr (by dsimp only; omega); cases e
        | some xa =>
        have hbm : 0 ≤ (m : Int) ∧ (m : Int) < (xn : Int) := ⟨by omega, q⟩
        -- the counter goes on
        have fin : ∀ {od' wo' : Sl} {odl' : List AMv} {whl' : List Nat} {g' : Heap}, New hR g' KMv od' odl' → New hR g' ki wo' (nzG whl') → New hR g' ki ⟨some sa, sn, sc⟩ (nzG (sti.e.map List.length)) → (∀ x, blkOf od' x → ¬ blkOf wo' x) → (∀ x, blkOf od' x → ¬ blkOf ⟨some sa, sn, sc⟩ x) → (∀ x, blkOf wo' x → ¬ blkOf ⟨some sa, sn, sc⟩ x) → CalI ls (PB.step ls sti qs[i]) odl' whl' → odl'.length ≤ i + 1 → (∀ w ∈ whl', w < ls.length) → law21_BuffersCalm.j2 ⟨some sa, sn, sc⟩ go (od, (wo, ((i : Int), u3))) (k : Int) (od', (wo', ())) g' := by
          intro od' wo' odl' whl' g' no' nw' na' d1' d2' d3' ci' hl' hw'
          have rA' : ∀ {K : Int → Prop}, K (m : Int) → ld ki g' (sa.add (k * 1)) K := fun h => na'.arr.ldAt rfl (nzG_get hat) rfl h
          refine ⟨hbA, rA' ⟨hbA, na'.stAt rfl (by rw [List.length_map, List.length_map]; omega) rfl rfl fun g2 na2 x2 => ?_⟩⟩
          have na2 : New hR g2 ki ⟨some sa, sn, sc⟩ ((nzG (sti.e.map List.length)).set k (w64 ((m : Int) + 1))) := na2
          rw [nextm, nzG_set, ← hlen] at na2
          refine hgo hiq _ _ next ⟨odl', whl', no'.ext x2 d2' na'.new, nw'.ext x2 d3' na'.new, by rw [hrun]; exact na2, d1', d2', d3', by rw [hrun]; exact ci', hl', hw'⟩
        refine ⟨hbL, hbA, rL (rA ⟨hbm, (hX.le lg).ldPart (kp := ki) (off := 1) (y := t.2.1) rfl htx ⟨[_], _, rfl, rfl⟩ rfl ⟨fun z => ?_, fun z => ?_⟩⟩)⟩
        · have z : ¬ t.2.1 = 5 := of_decide_eq_true z
          rw [if_neg z, if_neg z] at ca
          refine ⟨hbL, hbA, rL (rA ⟨hbm, (hX.le lg).ldAt rfl htx rfl ?_⟩)⟩
          refine no.app3 rfl rfl (by omega) fun t2 h2 n2 x2 b2 => ?_
          have nw2 := nw.ext x2 (fun x p q => d1 x q p) no.new
          have na2 := na.ext x2 (fun x p q => d2 x q p) no.new
          have e1 : ∀ x, blkOf t2 x → ¬ blkOf wo x := fun x p r => by
            rcases b2 x p with p | p
            · exact d1 x p r
            · exact nw.own.live x r p
          have e2 : ∀ x, blkOf t2 x → ¬ blkOf ⟨some sa, sn, sc⟩ x := fun x p r => by
            rcases b2 x p with p | p
            · exact d2 x p r
            · exact na.own.live x r p
          refine nw2.app3 (x := (k : Int)) rfl rfl (by omega) fun t3 h3' n3 x3 b3 => ?_
          have n3 : New hR h3' ki t3 (nzG whl ++ [(k : Int)]) := n3
          rw [show nzG whl ++ [(k : Int)] = nzG (whl ++ [k]) by unfold nzG; rw [List.map_append]; rfl] at n3
          refine fin (n2.ext x3 (fun x p r => e1 x p r) nw2.new) n3 (na2.ext x3 (fun x p r => d3 x r p) nw2.new) (fun x p r => ?_) e2 (fun x r p => ?_) ca (by rw [List.length_append]; show odl.length + 1 ≤ _; omega) (fun w hw => ?_)
          · rcases b3 x r with r | r
            · exact e1 x p r
            · exact n2.own.live x p r
          · rcases b3 x r with r | r
            · exact d3 x r p
            · exact na2.own.live x p r
          · rcases List.mem_append.1 hw with hw | hw
            · exact hww w hw
            · obtain rfl : w = k := by simpa using hw
              exact hkl
        · have z : ¬ t.2.1 ≠ 5 := of_decide_eq_false z
          have z : t.2.1 = 5 := Decidable.not_not.1 z
          rw [if_pos z, if_pos z] at ca
          exact fin no nw na d1 d2 d3 ca (by omega) hww
      · show law21_BuffersCalm.j3 _ _ go _ _ (decide ((m : Int) < (lsl.len : Int)), ()) g
        rw [decide_eq_false q]
        exact ⟨fun e => (by cases e), fun _ => idle (PB.step_idle hkt hkl (by rw [hm]; exact List.getElem?_eq_none (by omega)))⟩
    · have d : ¬ (k : Int) < (ln : Int) := of_decide_eq_false d
      have hs := PB.step_flush (ls := ls) (s := sti) (x := qs[i]) (by rw [hkt]; omega)
      refine ⟨fun e => (by cases e), fun _ => hgo hiq _ _ next ⟨odl, whl, no, nw, ?_, d1, d2, d3, ?_, by omega, hww⟩⟩
      · rw [hrun, hs]; exact na
      · rw [hrun, hs]; exact ci.flush oki _
  · have d : ¬ (i : Int) < (pk.len : Int) := of_decide_eq_false d
    rw [List.take_of_length_le (by omega), hst] at ci
    have hs4 : w64 (4 + w64 (4 * (ln : Int))) = 4 + 4 * (ls.length : Int) := by
      rw [w64_of (x := 4 * (ln : Int)) (by omega) (by omega), w64_of] <;> omega
    exact calm_tail X iO iC (by omega) no.le no.arr nw.arr hww ci hsz hQ hs4 (s17 := pk)
end
theorem calm_spec {cf cr cm cp cg co cc} (iF : FewC false id cf) (iR : PrivC cr) (iM : ModC cm) (iP : PlayC cp) (iG : ProgC cg) (iO : OpnC co) (iC : CPlayC cc) {room : Int} {lists picks : Sl} {h : Heap} {ls : List (List AMv)} {ps : List Int} (hl : Arr2 h KMv lists ls) (hp : Arr h ki picks ps) {Q : Bool → Heap → Prop} (hQ : ∀ h', Go.Mx.le h h' → Q true h') :
    law21_BuffersCalm.M cf cr cm cp cg co cc room lists picks h Q := by
  have fl0 := fewP_len (f := id) (ls := ls)
  have f0 : ∀ x ∈ fewP id ls, x.length ≤ 1000 := fewP_le fun l q => q
  refine iF hl fun t0 ha0 ht0 l0 => iR ht0 fl0.2 f0 fun t h1 ht l01 => iM (by decide) (by decide) ?_
  have l1 := l0.trans l01
  have fl : 1 ≤ (privP (fewP id ls)).length ∧ (privP (fewP id ls)).length ≤ 8 := by rw [privP_len]; exact fl0
  have pv := privP_ok (fewP id ls)
  have f1 : ∀ x ∈ privP (fewP id ls), x.length ≤ 1000 := by
    intro x hx
    unfold privP at hx
    obtain ⟨j, hj, rfl⟩ := List.mem_map.1 hx
    rw [List.length_map]
    exact getD_le f0 j
  generalize privP (fewP id ls) = G at ht fl pv f1
  have hrm : w64 (1 + room % 64) = 1 + room % 64 := by rw [w64_of] <;> omega
  have tl := ht.len
  have hs4 : w64 (4 + w64 (4 * (t.len : Int))) = ((4 + 4 * G.length : Nat) : Int) := by
    rw [w64_of (x := 4 * (t.len : Int)) (by omega) (by omega), w64_of] <;> omega
  have main : ∀ pk qs, Arr h1 ki pk qs → qs.length ≤ 2000 → law21_BuffersCalm.j11 cm cp cg co cc Q t (room % 64) (pk, ()) h1 := by
    intro pk qs ha hq
    have hj : judgedP ((4 + 4 * G.length : Nat) : Int) ((4 + 4 * G.length : Nat) : Int) (1 + room % 64) G qs.length = 0 := by
      unfold judgedP
      rw [if_neg (by omega), if_neg (by omega), if_neg (by omega), if_neg]
      intro q
      obtain ⟨l, h1, h2⟩ := List.any_eq_true.1 q
      have h3 := f1 l h1
      have h2 : 4096 < l.length := of_decide_eq_true h2
      omega
    show cp (w64 (4 + w64 (4 * (t.len : Int)))) (w64 (4 + w64 (4 * (t.len : Int)))) (w64 (1 + room % 64)) t pk h1 _
    rw [hs4, hrm]
    refine iP ht ha (fun q => absurd hj q) fun _ r h2 els wls R => ?_
    have R : RunR h1 h2 r G.length (PB.run G (PB.start G.length (1 + room % 64).toNat ((4 + 4 * G.length : Nat) : Int) (4 + 4 * G.length)) qs) els wls _ := R
    have l2 := R.e.le
    have e1 := R.e.out.len
    have e2 := R.e.len
    have ok0 := PB.start_ok (ls := G) (n := G.length) (rm := (1 + room % 64).toNat) (u := 4 + 4 * G.length) (sz := ((4 + 4 * G.length : Nat) : Int)) rfl fl.2 (by omega) (by omega) (by omega) (by omega)
    have ok : (PB.run G (PB.start G.length (1 + room % 64).toNat ((4 + 4 * G.length : Nat) : Int) (4 + 4 * G.length)) qs).Ok G 80000000 := (ok0.run qs).mono (by omega)
    have ci0 := CalI.start G (1 + room % 64).toNat
    have hsz : (PB.run G (PB.start G.length (1 + room % 64).toNat ((4 + 4 * G.length : Nat) : Int) (4 + 4 * G.length)) qs).m.sz = 4 + 4 * (G.length : Int) := (PB.size_run G qs _).trans (by show ((4 + 4 * G.length : Nat) : Int) = _; omega)
    have hel := ok.el
    have hs0e : (PB.start G.length (1 + room % 64).toNat ((4 + 4 * G.length : Nat) : Int) (4 + 4 * G.length)).e = List.replicate G.length [] := rfl
    have f4 : ∀ x ∈ G, x.length ≤ 4096 := fun x hx => Nat.le_trans (f1 x hx) (by decide)
    have prog : ∀ {K : Bool → Heap → Prop}, (∀ h'', Go.Mx.le h2 h'' → K true h'') → cg r t pk h2 K := by
      intro K hK
      refine iG (ht.le l2) (ha.le l2) R.e.out.arr fl.1 fl.2 (by omega) f4 ok0 rfl (by omega) (fun i sl hs => ?_) hK
      have hi := (List.getElem?_eq_some_iff.1 hs).1
      have hsi : (PB.run G (PB.start G.length (1 + room % 64).toNat ((4 + 4 * G.length : Nat) : Int) (4 + 4 * G.length)) qs).e[i]? = some ((PB.run G (PB.start G.length (1 + room % 64).toNat ((4 + 4 * G.length : Nat) : Int) (4 + 4 * G.length)) qs).e[i]'(by omega)) := by simp
      rw [List.getD_eq_getElem?_getD, hsi]
      exact (R.e.row i sl _ hs hsi).len.symm
    generalize hst : PB.run G (PB.start G.length (1 + room % 64).toNat ((4 + 4 * G.length : Nat) : Int) (4 + 4 * G.length)) qs = st at R ok hsz hel e2
    generalize PB.start G.length (1 + room % 64).toNat ((4 + 4 * G.length : Nat) : Int) (4 + 4 * G.length) = s0 at ok0 ci0 hst prog hs0e
    have he0 : s0.e = List.replicate G.length [] := hs0e
    refine ⟨fun q => (by cases q), fun _ => ⟨fun q => absurd (of_decide_eq_true q) ?_, fun _ => ?_⟩⟩
    · dsimp only; omega
    refine prog fun h3 l3 => ⟨fun e => (by cases e), fun _ => ?_⟩
    obtain ⟨sls, a1, a2, a3⟩ := ht
    obtain ⟨⟨ea, en, ec⟩, ⟨wa, wn, wc⟩, rc, rl, rd, u⟩ := r
    obtain ⟨Re, Rw, Rc, Rl, Rd, -, -, -⟩ := R
    dsimp only at Re e1
    obtain ⟨la, ln, lc⟩ := t
    have a1n := a1.1
    dsimp only at tl a1n
    cases la with
    | none => obtain ⟨a, e⟩ := a1.addr (by dsimp only; omega); cases e
    | some la =>
    cases ea with
    | none => obtain ⟨a, e⟩ := Re.out.arr.addr (by dsimp only; omega); cases e
    | some ea =>
    have l23 := l2.trans l3
    have X : GX h3 G st ⟨some la, ln, lc⟩ ⟨some ea, en, ec⟩ sls els := {
      l1 := a1.le l23
      ll := a2
      lr := fun i sl hs => by
        have hi := (List.getElem?_eq_some_iff.1 hs).1
        have hx : G[i]? = some (G[i]'(by omega)) := by simp
        rw [List.getD_eq_getElem?_getD, hx]
        exact (a3 i sl _ hs hx).le l23
      e1 := Re.out.arr.le l3
      el := by omega
      er := fun i sl hs => by
        have hi := (List.getElem?_eq_some_iff.1 hs).1
        have hx : st.e[i]? = some (st.e[i]'(by omega)) := by simp
        rw [List.getD_eq_getElem?_getD, hx]
        exact (Re.row i sl _ hs hx).arr.le l3
      ok := ok
      x4 := fun w => getD_le f4 w
      n1 := fl.1
      n8 := fl.2
      pv := pv }
    exact calm_loop X iM iO iC hst ok0 he0 ci0 hsz hq (ha.le l23) fun h' l' => hQ h' (l1.trans (l23.trans l'))
  have hpl := hp.1
  have hpc := hp.2.1
  refine ⟨fun e => ?_, fun e => ?_⟩
  · have e : (2000 : Int) < (picks.len : Int) := of_decide_eq_true e
    exact ⟨⟨by omega, by omega⟩, main _ _ ((hp.le l1).pre (by show 2000 ≤ picks.len; omega)) (List.length_take_le ..)⟩
  · have e : ¬ (2000 : Int) < (picks.len : Int) := of_decide_eq_false e
    exact main _ _ (hp.le l1) (by omega)

end Go.Mx
