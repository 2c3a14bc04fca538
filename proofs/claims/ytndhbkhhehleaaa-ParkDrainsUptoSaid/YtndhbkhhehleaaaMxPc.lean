/-
  Parking: the walks of what all machines of a lot share.
  Parking: the walks of a step.
-/
import Derived.Test.YtndhbkhhehleaaaMxPa
set_option linter.unusedVariables false
set_option linter.unusedSimpArgs false
set_option linter.unusedSectionVars false
namespace Go.Mx

abbrev KPr : Kd := .pair (.arr 64 KP2) (.pair KOp .nil)
def PO (h : Heap) (b : Nat) (s : PSt) (r : Den KPr) : Prop := Obj h b KPOp (s.den, r)
def PSt.list (s : PSt) : List Value := [.int .i64 s.base, .int .i64 s.workers, .int .i64 s.self, .int .i64 s.kind, .int .i64 s.at_, .int .i64 s.k, .int .i64 s.then_, .int .i64 s.code, .int .i64 s.value]
theorem PO.cells (s : PSt) (r : Den KPr) : KPOp.cells (s.den, r) = s.list ++ KPr.cells r := rfl
theorem PO.ext {h h' b s r} (o : PO h b s r) {S : Nat → Prop} (e : Ext S h h') (n : ¬ S b) : PO h' b s r := Obj.ext o e n
theorem PO.le {h h' b s r} (o : PO h b s r) (e : Go.Mx.le h h') : PO h' b s r := Obj.le o e
theorem PO.live {h b s r} (o : PO h b s r) : h b ≠ none := Obj.live o
theorem PO.at {h b s r} (o : PO h b s r) {i : Nat} {x : Int} (hx : s.list[i]? = some (.int .i64 x)) {a : Addr} (ha : a = (ptr b).add i) {K : Int → Prop} (hK : K x) : ld ki h a K := by
  subst ha
  have hl : i < s.list.length := (List.getElem?_eq_some_iff.1 hx).1
  refine Obj.ld (k := KPOp) (kf := ki) (y := x) o ⟨s.list.take i, s.list.drop (i + 1) ++ KPr.cells r, ?_, by rw [List.length_take]; omega⟩ hK
  rw [PO.cells]
  have e : s.list = s.list.take i ++ [Value.int .i64 x] ++ s.list.drop (i + 1) := by
    have := (List.getElem?_eq_some_iff.1 hx).2
    rw [← this, List.append_assoc, List.singleton_append, List.getElem_cons_drop, List.take_append_drop]
  conv => lhs; rw [e]
  simp only [List.append_assoc]
  rfl
theorem PO.set {h b s r} (o : PO h b s r) {i : Nat} (hi : i < 9) {x : Int} {s' : PSt} (hs : s'.list = s.list.set i (.int .i64 x)) {a : Addr} (ha : a = (ptr b).add i) {K : Heap → Prop} (hK : ∀ h', PO h' b s' r → Ext (· = b) h h' → K h') : st ki h a x K := by
  subst ha
  refine Obj.st (k := KPOp) (kf := ki) (v := x) (off := i) (x' := (s'.den, r)) o ?_ (by show i + 1 ≤ 153; omega) rfl hK
  rw [PO.cells, PO.cells, hs]
  show _ = splice (s.list ++ KPr.cells r) i [Value.int .i64 x]
  have hl : s.list.length = 9 := rfl
  unfold splice
  rw [List.take_append_of_le_length (by omega), List.drop_append_of_le_length (by simp; omega), List.set_eq_take_append_cons_drop, if_pos (by omega)]
  simp
theorem POp.split (o : POp) : o.den = (o.st.den, (o.ds, (o.look.den, ()))) := rfl
def OverP (c : Option Addr → Int → Int → Heap → (Unit → Heap → Prop) → Prop) : Prop := ∀ {h b s r code v} {Q : Unit → Heap → Prop}, PO h b s r → (∀ h', PO h' b (s.over code v) r → Ext (· = b) h h' → Q () h') → c (some ((ptr b).add 0)) code v h Q
def BackP (c : Option Addr → Int → Heap → (Unit → Heap → Prop) → Prop) : Prop := ∀ {h b s r code} {Q : Unit → Heap → Prop}, PO h b s r → (∀ h', PO h' b (s.back code) r → Ext (· = b) h h' → Q () h') → c (some ((ptr b).add 0)) code h Q
def OtherP (c : Option Addr → Heap → (Int → Heap → Prop) → Prop) : Prop := ∀ {h b s r} {Q : Int → Heap → Prop}, PO h b s r → s.workers ≠ 0 → Q s.other h → c (some ((ptr b).add 0)) h Q
def FlagP (c : Option Addr → Int → Heap → (Int → Heap → Prop) → Prop) : Prop := ∀ {h b s r i} {Q : Int → Heap → Prop}, PO h b s r → Q (s.flag i) h → c (some ((ptr b).add 0)) i h Q
def WokenP (f : PSt → Int → PSt) (c : Option Addr → Int → Heap → (Unit → Heap → Prop) → Prop) : Prop := ∀ {h b s r g} {Q : Unit → Heap → Prop}, PO h b s r → s.workers ≠ 0 → (∀ h', PO h' b (f s g) r → Ext (· = b) h h' → Q () h') → c (some ((ptr b).add 0)) g h Q
theorem dN {a : Addr} {K : Addr → Prop} (h : K a) : deref (some a) K := h
theorem pover_spec : OverP park_state_over.M := by
  intro h b s r code v Q o hQ
  refine dN (o.set (i := 4) (s' := { s with at_ := 0 }) (by decide) rfl rfl fun h1 o1 x1 => dN (o1.set (i := 7) (s' := { s with at_ := 0, code := code }) (by decide) rfl rfl fun h2 o2 x2 => dN (o2.set (i := 8) (s' := s.over code v) (by decide) rfl rfl fun h3 o3 x3 => hQ h3 o3 ((x1.trans x2).trans x3))))
theorem pback_spec : BackP park_state_back.M := by
  intro h b s r code Q o hQ
  refine dN (o.set (i := 6) (s' := { s with then_ := code }) (by decide) rfl rfl fun h1 o1 x1 => dN (o1.set (i := 4) (s' := s.back code) (by decide) rfl rfl fun h2 o2 x2 => hQ h2 o2 (x1.trans x2)))
theorem pother_spec : OtherP park_state_other.M := by
  intro h b s r Q o hw hQ
  exact dN (dN (dN (o.at (i := 2) rfl rfl (o.at (i := 5) rfl rfl (o.at (i := 1) rfl rfl ⟨hw, hQ⟩)))))
theorem pflag_spec : FlagP park_state_flag.M := by
  intro h b s r i Q o hQ
  exact dN (o.at (i := 0) rfl rfl hQ)
theorem pwoken_spec {cv co} (iV : OverP cv) (iO : OtherP co) : WokenP PSt.woken (park_state_woken.M cv co) := by
  intro h b s r g Q o hw hQ
  unfold PSt.woken at hQ
  refine dN (o.at (i := 4) rfl rfl ⟨fun e => ?_, fun e => ⟨fun e2 => ?_, fun e2 => ⟨fun e3 => ?_, fun e3 => ?_⟩⟩⟩)
  · have e : s.at_ = 8 := of_decide_eq_true e
    rw [if_pos e] at hQ
    refine dN (o.set (i := 4) (s' := { s with at_ := 9 }) (by decide) rfl rfl fun h1 o1 x1 => ⟨fun d => ?_, fun d => ?_⟩)
    · have d : g ≤ 0 := of_decide_eq_true d
      rw [if_pos d] at hQ
      exact ⟨fun _ => iV o1 fun h2 o2 x2 => hQ h2 o2 (x1.trans x2), fun q => (by cases q)⟩
    · have d : ¬ g ≤ 0 := of_decide_eq_false d
      rw [if_neg d] at hQ
      refine dN (o1.at (i := 1) rfl rfl ⟨fun f => ?_, fun f => ?_⟩)
      · have f : s.workers = 1 := of_decide_eq_true f
        rw [if_pos f] at hQ
        exact iV o1 fun h2 o2 x2 => hQ h2 o2 (x1.trans x2)
      · have f : ¬ s.workers = 1 := of_decide_eq_false f
        rw [if_neg f] at hQ
        exact hQ h1 o1 x1
  · have e : ¬ s.at_ = 8 := of_decide_eq_false e
    have e2 : s.at_ = 9 := of_decide_eq_true e2
    rw [if_neg e, if_pos e2] at hQ
    refine ⟨fun d => ?_, fun d => ?_⟩
    · rw [if_pos (of_decide_eq_true d)] at hQ
      exact dN (o.set (i := 4) (s' := { s with at_ := 7 }) (by decide) rfl rfl hQ)
    · rw [if_neg (of_decide_eq_false d)] at hQ
      refine dN (o.at (i := 5) rfl rfl (dN (o.set (i := 5) (s' := { s with k := w64 (s.k + 1) }) (by decide) rfl rfl fun h1 o1 x1 => dN (dN (o1.at (i := 5) rfl rfl (o1.at (i := 1) rfl rfl ⟨fun f => ?_, fun f => ?_⟩))))))
      · have f : w64 (s.k + 1) = s.workers := of_decide_eq_true f
        rw [if_pos f] at hQ
        exact iV o1 fun h2 o2 x2 => hQ h2 o2 (x1.trans x2)
      · have f : ¬ w64 (s.k + 1) = s.workers := of_decide_eq_false f
        rw [if_neg f] at hQ
        exact hQ h1 o1 x1
  · have e : ¬ s.at_ = 8 := of_decide_eq_false e
    have e2 : ¬ s.at_ = 9 := of_decide_eq_false e2
    rw [if_neg e, if_neg e2, if_pos (of_decide_eq_true e3)] at hQ
    exact iO o hw (iV o hQ)
  · have e : ¬ s.at_ = 8 := of_decide_eq_false e
    have e2 : ¬ s.at_ = 9 := of_decide_eq_false e2
    rw [if_neg e, if_neg e2, if_neg (of_decide_eq_false e3)] at hQ
    exact hQ h o (.refl _ _)
theorem pfinished_spec {cv} (iV : OverP cv) : WokenP PSt.finished (park_state_finished.M cv) := by
  intro h b s r g Q o hw hQ
  have fin : ∀ h1 s', PO h1 b s' r → Ext (· = b) h h1 → (∀ h', PO h' b s'.fin r → Ext (· = b) h h' → Q () h') → park_state_finished.j1 cv (some ((ptr b).add 0)) Q () h1 := fun h1 s' o1 x1 hQ => by
    unfold PSt.fin at hQ
    refine dN (dN (o1.at (i := 5) rfl rfl (o1.at (i := 1) rfl rfl ⟨fun f => ?_, fun f => ?_⟩)))
    · have f : s'.workers ≤ s'.k := of_decide_eq_true f
      rw [if_pos f] at hQ
      exact iV o1 fun h2 o2 x2 => hQ h2 o2 (x1.trans x2)
    · have f : ¬ s'.workers ≤ s'.k := of_decide_eq_false f
      rw [if_neg f] at hQ
      exact hQ h1 o1 x1
  have nxt : (∀ h', PO h' b (PSt.fin { s with at_ := 9, k := w64 (s.k + 1) }) r → Ext (· = b) h h' → Q () h') → park_state_finished.j2 cv (some ((ptr b).add 0)) Q (false, ()) h := fun hQ =>
    ⟨fun e => (by cases e), fun _ => dN (o.set (i := 4) (s' := { s with at_ := 9 }) (by decide) rfl rfl fun h1 o1 x1 => dN (o1.at (i := 5) rfl rfl (dN (o1.set (i := 5) (s' := { s with at_ := 9, k := w64 (s.k + 1) }) (by decide) rfl rfl fun h2 o2 x2 => fin h2 _ o2 (x1.trans x2) hQ))))⟩
  unfold PSt.finished at hQ
  refine dN (o.at (i := 4) rfl rfl ⟨fun e => ?_, fun e => dN (o.at (i := 4) rfl rfl ⟨fun e2 => ?_, fun e2 => ?_⟩)⟩)
  · rw [if_pos (of_decide_eq_true e)] at hQ
    exact dN (o.set (i := 4) (s' := { s with at_ := 9 }) (by decide) rfl rfl fun h1 o1 x1 => fin h1 _ o1 x1 hQ)
  · have e : ¬ s.at_ = 10 := of_decide_eq_false e
    rw [if_neg e, if_pos (of_decide_eq_true e2)] at hQ
    by_cases d : g = 1
    · rw [if_pos d] at hQ
      rw [decide_eq_true d]
      exact ⟨fun _ => dN (o.set (i := 4) (s' := { s with at_ := 7 }) (by decide) rfl rfl hQ), fun q => (by cases q)⟩
    · rw [if_neg d] at hQ
      rw [decide_eq_false d]
      exact nxt hQ
  · have e : ¬ s.at_ = 10 := of_decide_eq_false e
    rw [if_neg e, if_neg (of_decide_eq_false e2)] at hQ
    exact nxt hQ
end Go.Mx

namespace Go.Mx

theorem Obj.ldArrP {h : Heap} {b : Nat} {k ka : Kd} {x : Den k} (o : Obj h b k x) {n off : Nat} {f : Fin n → Den ka} (hp : PartAt k (.arr n ka) off x f) {i : Nat} (hi : i < n) {K : Den ka → Prop} (hK : K (f ⟨i, hi⟩)) {a : Addr} (ha : a = (ptr b).add (off + i * ka.size)) : Go.Mx.ld ka h a K := by
  obtain ⟨pre, post, e1, e2⟩ := hp
  subst ha
  obtain ⟨p, r, h1, h2⟩ := flatMap_at ka.cells ka.size ka.cells_len (List.ofFn f) i (f ⟨i, hi⟩) (by rw [List.getElem?_ofFn, dif_pos hi])
  refine o.ld (kf := ka) ⟨pre ++ p, r ++ post, ?_, by rw [List.length_append, e2, h2]⟩ hK
  rw [e1]
  show pre ++ (List.ofFn f).flatMap ka.cells ++ post = _
  rw [h1]; simp only [List.append_assoc]
theorem PO.all {h b s r} (o : PO h b s r) {K : Den KPOp → Prop} (hK : K (s.den, r)) : ld KPOp h (ptr b) K :=
  Obj.ld (k := KPOp) (kf := KPOp) (y := (s.den, r)) (off := 0) o ⟨[], [], by simp, rfl⟩ hK
theorem pre137 (s : PSt) (ds : Dqs) : (KPSt.cells s.den ++ Kd.cells (.arr 64 KP2) ds).length = 137 := by
  rw [List.length_append, Kd.cells_len, Kd.cells_len]; rfl
theorem cells137 (s : PSt) (ds : Dqs) (l : Den KOp) : KPOp.cells (s.den, (ds, (l, ()))) = (KPSt.cells s.den ++ Kd.cells (.arr 64 KP2) ds) ++ KOp.cells l ++ [] := by
  show KPSt.cells s.den ++ (Kd.cells (.arr 64 KP2) ds ++ (KOp.cells l ++ [])) = _
  simp only [List.append_assoc]
theorem PO.look {h b s ds} {l : Den KOp} (o : PO h b s (ds, (l, ()))) {K : Den KOp → Prop} (hK : K l) : ld KOp h ((ptr b).add 137) K :=
  Obj.ld (k := KPOp) (kf := KOp) (y := l) (off := 137) o ⟨_, _, cells137 s ds l, pre137 s ds⟩ hK
theorem PO.setLook {h b s ds} {l l' : Den KOp} (o : PO h b s (ds, (l, ()))) {K : Heap → Prop} (hK : ∀ h', PO h' b s (ds, (l', ())) → Ext (· = b) h h' → K h') : st KOp h ((ptr b).add 137) l' K := by
  refine Obj.st (k := KPOp) (kf := KOp) (v := l') (off := 137) (x' := (s.den, (ds, (l', ())))) o ?_ (by decide) rfl hK
  rw [cells137, cells137]
  have := splice_mid (KPSt.cells s.den ++ Kd.cells (.arr 64 KP2) ds) (KOp.cells l) [] (KOp.cells l') 0 (by rw [Kd.cells_len, Kd.cells_len]; exact Nat.le_refl _)
  rw [pre137] at this
  rw [this]
  congr 1
theorem PO.dq {h b s ds} {l : Den KOp} (o : PO h b s (ds, (l, ()))) {i : Nat} (hi : i < 64) {K : Den KP2 → Prop} (hK : K (ds ⟨i, hi⟩)) {a : Addr} (ha : a = (ptr b).add (9 + i * 2)) : ld KP2 h a K := by
  refine Obj.ldArrP (k := KPOp) (ka := KP2) (n := 64) (f := ds) (off := 9) o ⟨KPSt.cells s.den, KOp.cells l ++ [], ?_, by rw [Kd.cells_len]; rfl⟩ hi hK ha
  rw [cells137]
  simp only [List.append_assoc]
theorem PO.new {h : Heap} {o : POp} {K : Addr → Heap → Prop} (hK : ∀ b h', h b = none → PO h' b o.st (o.ds, (o.look.den, ())) → Go.Mx.le h h' → K (ptr b) h') : Go.Mx.new h (KPOp.cells o.den) K :=
  Obj.new (k := KPOp) (x := o.den) hK
def AroundOk (s : PSt) : Prop := s.workers ≤ w64 (s.k + 1) ∨ (0 ≤ PSt.other { s with k := w64 (s.k + 1), at_ := 4 } ∧ PSt.other { s with k := w64 (s.k + 1), at_ := 4 } < 64 ∧ s.workers ≠ 0)
def AroundP' (c : Den KPOp → Heap → (Den KPOp → Heap → Prop) → Prop) : Prop := ∀ {h} {o : POp} {Q : Den KPOp → Heap → Prop}, AroundOk o.st → (∀ h', le h h' → Q o.around.den h') → c o.den h Q
theorem ext_new {h h1 h2 : Heap} {b : Nat} (l : le h h1) (hb : h b = none) (x : Ext (· = b) h1 h2) : le h h2 := le_ext l x fun z q => by rw [q]; exact hb
theorem paround_spec {co cl} (iO : OtherP co) (iL : ∀ {base most : Int} {h : Heap} {Q : Den KOp → Heap → Prop}, Q (DOp.look base most).den h → cl (base, (most, ())) h Q) : AroundP' (park_Op_around.M co cl) := by
  intro h o Q ok hQ
  unfold POp.around at hQ
  refine PO.new fun b h1 hb o1 l1 => o1.at (i := 5) rfl rfl (o1.set (i := 5) (s' := { o.st with k := w64 (o.st.k + 1) }) (by decide) rfl rfl fun h2 o2 x2 => o2.set (i := 4) (s' := { o.st with k := w64 (o.st.k + 1), at_ := 4 }) (by decide) rfl rfl fun h3 o3 x3 => o3.at (i := 5) rfl rfl (o3.at (i := 1) rfl rfl ⟨fun e => ?_, fun e => ?_⟩))
  · have e : o.st.workers ≤ w64 (o.st.k + 1) := of_decide_eq_true e
    rw [if_pos e] at hQ
    refine o3.set (i := 4) (s' := { o.st with k := w64 (o.st.k + 1), at_ := 5 }) (by decide) rfl rfl fun h4 o4 x4 => o4.all ?_
    exact hQ h4 (ext_new l1 hb ((x2.trans x3).trans x4))
  · have e : ¬ o.st.workers ≤ w64 (o.st.k + 1) := of_decide_eq_false e
    rw [if_neg e] at hQ
    obtain ⟨g0, g1, g2⟩ := ok.resolve_left e
    refine iO o3 g2 ⟨⟨g0, g1⟩, ?_⟩
    generalize hx : PSt.other { o.st with k := w64 (o.st.k + 1), at_ := 4 } = x at *
    have hd : aget (n := 64) (a := KP2) o.ds x.toNat = o.ds ⟨x.toNat, by omega⟩ := dif_pos (by omega)
    refine o3.dq (i := x.toNat) (by omega) ?_ (by rw [add_add'])
    rw [← hd]
    refine iL ?_
    exact o3.setLook fun h4 o4 x4 => o4.all (hQ h4 (ext_new l1 hb ((x2.trans x3).trans x4)))
def RestedP (c : Den KPOp → Int → Heap → (Den KPOp → Heap → Prop) → Prop) : Prop := ∀ {h} {o : POp} {g : Int} {Q : Den KPOp → Heap → Prop}, (o.st.at_ = 3 → AroundOk o.st) → (∀ h', le h h' → Q (o.rested g).den h') → c o.den g h Q
theorem prested_spec {ca cb cv} (iA : AroundP' ca) (iB : BackP cb) (iV : OverP cv) : RestedP (park_Op_rested.M ca cb cv) := by
  intro h o g Q ok hQ
  unfold POp.rested at hQ
  refine PO.new fun b h1 hb o1 l1 => o1.at (i := 4) rfl rfl ⟨fun e => ?_, fun e => ⟨fun e2 => ?_, fun e2 => ⟨fun e3 => ⟨fun d => ?_, fun d => ?_⟩, fun e3 => ⟨fun e5 => ⟨fun d => ?_, fun d => ?_⟩, fun e5 => ⟨fun e6 => ?_, fun e6 => ⟨fun e7 => ?_, fun e7 => ?_⟩⟩⟩⟩⟩⟩
  · rw [if_pos (of_decide_eq_true e)] at hQ
    exact o1.set (i := 4) (s' := { o.st with at_ := 2 }) (by decide) rfl rfl fun h2 o2 x2 => o2.all (hQ h2 (ext_new l1 hb x2))
  · rw [if_neg (of_decide_eq_false e), if_pos (of_decide_eq_true e2)] at hQ
    exact o1.set (i := 4) (s' := { o.st with at_ := 3 }) (by decide) rfl rfl fun h2 o2 x2 => o2.all (hQ h2 (ext_new l1 hb x2))
  · have d : ¬ g = 1 := of_decide_eq_true d
    rw [if_neg (of_decide_eq_false e), if_neg (of_decide_eq_false e2), if_pos (of_decide_eq_true e3), if_neg d] at hQ
    exact o1.all (iA (ok (of_decide_eq_true e3)) fun h2 l2 => hQ h2 (l1.trans l2))
  · have d : g = 1 := Decidable.not_not.1 (of_decide_eq_false d)
    rw [if_neg (of_decide_eq_false e), if_neg (of_decide_eq_false e2), if_pos (of_decide_eq_true e3), if_pos d] at hQ
    exact iB o1 fun h2 o2 x2 => o2.all (hQ h2 (ext_new l1 hb x2))
  · have d : ¬ g = 1 := of_decide_eq_true d
    rw [if_neg (of_decide_eq_false e), if_neg (of_decide_eq_false e2), if_neg (of_decide_eq_false e3), if_pos (of_decide_eq_true e5), if_neg d] at hQ
    exact iV o1 fun h2 o2 x2 => o2.all (hQ h2 (ext_new l1 hb x2))
  · have d : g = 1 := Decidable.not_not.1 (of_decide_eq_false d)
    rw [if_neg (of_decide_eq_false e), if_neg (of_decide_eq_false e2), if_neg (of_decide_eq_false e3), if_pos (of_decide_eq_true e5), if_pos d] at hQ
    exact o1.all (hQ h1 l1)
  · rw [if_neg (of_decide_eq_false e), if_neg (of_decide_eq_false e2), if_neg (of_decide_eq_false e3), if_neg (of_decide_eq_false e5), if_pos (of_decide_eq_true e6)] at hQ
    refine o1.set (i := 4) (s' := { o.st with at_ := 7 }) (by decide) rfl rfl fun h2 o2 x2 => ⟨fun d => ?_, fun d => ?_⟩
    · have d : ¬ g = 1 := of_decide_eq_true d
      rw [if_neg d] at hQ
      exact o2.at (i := 6) rfl rfl (iV o2 fun h3 o3 x3 => o3.all (hQ h3 (ext_new l1 hb (x2.trans x3))))
    · have d : g = 1 := Decidable.not_not.1 (of_decide_eq_false d)
      rw [if_pos d] at hQ
      exact o2.all (hQ h2 (ext_new l1 hb x2))
  · rw [if_neg (of_decide_eq_false e), if_neg (of_decide_eq_false e2), if_neg (of_decide_eq_false e3), if_neg (of_decide_eq_false e5), if_neg (of_decide_eq_false e6), if_pos (of_decide_eq_true e7)] at hQ
    exact o1.at (i := 6) rfl rfl (iV o1 fun h3 o3 x3 => o3.all (hQ h3 (ext_new l1 hb x3)))
  · rw [if_neg (of_decide_eq_false e), if_neg (of_decide_eq_false e2), if_neg (of_decide_eq_false e3), if_neg (of_decide_eq_false e5), if_neg (of_decide_eq_false e6), if_neg (of_decide_eq_false e7)] at hQ
    exact o1.all (hQ h1 l1)
def LookedP (T : TypeId) (c : Den KPOp → Value → Heap → (Den KPOp → Heap → Prop) → Prop) : Prop := ∀ {h0 h : Heap} {bA : Nat} {m : AS} {S : Nat → Prop} {o : POp} {n : Nat} {Q : Den KPOp → Heap → Prop}, RA h0 bA m S h → m.Fit n → n ≤ 1000000000 → o.look.Ok → AroundOk o.st →
  (∀ S' h', RA h0 bA (stepD arenaI m o.look).1 S' h' → Step S S' h h' → Q (o.looked (stepD arenaI m o.look).2).den h') → c o.den (.iface T (.pointer (some (ptr bA)))) h Q
theorem Step.pre {S S' : Nat → Prop} {h h1 h2 : Heap} (l : Go.Mx.le h h1) (s : Step S S' h1 h2) : Step S S' h h2 :=
  ⟨((l.toExt (S := fun _ => False)).mono (fun _ q => q.elim)).trans s.1, fun x q => (s.2 x q).imp id fun e => l.none e⟩
theorem Step.new {S S' : Nat → Prop} {h h1 h2 h3 : Heap} {b : Nat} (l : Go.Mx.le h h1) (hb : h b = none) (s : Step S S' h1 h2) (x : Ext (· = b) h2 h3) : Step S S' h h3 := by
  refine ⟨⟨fun z o e n => ?_, fun z e => l.none (s.1.2 z (x.2 z e))⟩, fun z q => (s.2 z q).imp id fun e => l.none e⟩
  exact x.1 z o (s.1.1 z o (l z o e) n) fun q => by rw [q, hb] at e; cases e
theorem RA.more {h0 b s S h h'} (R : RA h0 b s S h) (l : Go.Mx.le h h') : RA h0 b s S h' := R.ext (T := fun _ => False) l.toExt (fun _ _ => id) (fun _ q => q.elim)
theorem plooked_spec {T : TypeId} {c1 c2 c3 c4 c5} (iS : StepM T c1) (iA : AnswM c2) (iB : BackP c3) (iR : AroundP' c4) (iV : OverP c5) : LookedP T (park_Op_looked.M c1 c2 c3 c4 c5) := by
  intro h0 h bA m S o n Q ra ft hn ok ao hQ
  refine PO.new fun b h1 hb o1 l1 => o1.look ?_
  have ra1 := ra.more l1
  refine iS ra1 (by have := ft.lg; omega) ft.cs ft.sz ok fun S2 h2 ra2 st2 => ?_
  have hbS : ¬ S b := fun q => ra.live q hb
  have o2 := o1.ext st2.1 hbS
  have hbS2 : ¬ S2 b := st2.off (T := (· = b)) (fun x e q => by subst e; exact hbS q) (fun x e => by subst e; exact o1.live) b rfl
  generalize hl : (stepD arenaI m o.look).2 = l at *
  refine o2.setLook fun h3 o3 x3 => o3.look (iA ?_)
  have hb0 : h0 b = none := ra.le.none hb
  have fin : ∀ {h4}, Ext (· = b) h3 h4 → RA h0 bA (stepD arenaI m o.look).1 S2 h4 ∧ Step S S2 h h4 := fun {h4} x4 => by
    have x := x3.trans x4
    exact ⟨ra2.ext x (fun z q e => by subst e; exact hbS2 q) (fun z e => by subst e; exact hb0), Step.new l1 hb st2 x⟩
  unfold POp.looked at hQ
  refine ⟨fun e => ?_, fun e => ⟨fun e7 => ?_, fun e7 => ⟨fun e8 => ?_, fun e8 => ?_⟩⟩⟩
  · rw [if_pos (of_decide_eq_true e)] at hQ
    obtain ⟨r, s⟩ := fin (.refl _ _)
    exact o3.all (hQ S2 h3 r s)
  · rw [if_neg (of_decide_eq_false e), if_pos (of_decide_eq_true e7)] at hQ
    refine iB o3 fun h4 o4 x4 => ?_
    obtain ⟨r, s⟩ := fin x4
    exact o4.all (hQ S2 h4 r s)
  · rw [if_neg (of_decide_eq_false e), if_neg (of_decide_eq_false e7), if_pos (of_decide_eq_true e8)] at hQ
    obtain ⟨r, s⟩ := fin (.refl _ _)
    refine o3.all (iR (o := { o with look := l }) ao fun h4 l4 => hQ S2 h4 (r.more l4) ?_)
    exact ⟨⟨fun z ob e q => l4 z ob (s.1.1 z ob e q), fun z e => s.1.2 z (l4.none e)⟩, s.2⟩
  · rw [if_neg (of_decide_eq_false e), if_neg (of_decide_eq_false e7), if_neg (of_decide_eq_false e8)] at hQ
    refine iV o3 fun h4 o4 x4 => ?_
    obtain ⟨r, s⟩ := fin x4
    exact o4.all (hQ S2 h4 r s)
structure ArP (T : TypeId) (cL : Value → Int → Heap → (Den KP2 → Heap → Prop) → Prop) (cS : Value → Int → Int → Heap → (Int → Heap → Prop) → Prop) (cC : Value → Int → Int → Int → Heap → ((Bool × (Int × Unit)) → Heap → Prop) → Prop) (cA : Value → Int → Int → Heap → (Den KP2 → Heap → Prop) → Prop) (cN : Value → Prop) : Prop where
  nil : ∀ b n, n = "Load" ∨ n = "Store" ∨ n = "CAS" ∨ n = "Add" → cN (Value.func (.method n) (List.toArray [Kd.val .iface (.iface T (.pointer (some (ptr b))))]) (List.toArray []))
  load : ∀ {h0 h : Heap} {b : Nat} {s : AS} {S : Nat → Prop} {n : Nat} {a : Int} {Q : Den KP2 → Heap → Prop}, RA h0 b s S h → s.Fit n → n ≤ 1000000000 → (∀ g e S' h', ((arenaI s (.ld a)).1 = some g ∧ e = 0 ∨ (arenaI s (.ld a)).1 = none ∧ e ≠ 0) → RA h0 b (arenaI s (.ld a)).2 S' h' → Step S S' h h' → Q (g, (e, ())) h') → cL (.iface T (.pointer (some (ptr b)))) a h Q
  store : ∀ {h0 h : Heap} {b : Nat} {s : AS} {S : Nat → Prop} {n : Nat} {a x : Int} {Q : Int → Heap → Prop}, RA h0 b s S h → s.Fit n → n ≤ 1000000000 → (∀ e S' h', ((arenaI s (.st a x)).1 = some 0 ∧ e = 0 ∨ (arenaI s (.st a x)).1 = none ∧ e ≠ 0) → RA h0 b (arenaI s (.st a x)).2 S' h' → Step S S' h h' → Q e h') → cS (.iface T (.pointer (some (ptr b)))) a x h Q
  cas : ∀ {h0 h : Heap} {b : Nat} {s : AS} {S : Nat → Prop} {n : Nat} {a x y : Int} {Q : (Bool × (Int × Unit)) → Heap → Prop}, RA h0 b s S h → s.Fit n → n ≤ 1000000000 → (∀ (g : Bool) e S' h', ((arenaI s (.cas a x y)).1 = some (if g = true then 1 else 0) ∧ e = 0 ∨ (arenaI s (.cas a x y)).1 = none ∧ e ≠ 0) → RA h0 b (arenaI s (.cas a x y)).2 S' h' → Step S S' h h' → Q (g, (e, ())) h') → cC (.iface T (.pointer (some (ptr b)))) a x y h Q
  add : ∀ {h0 h : Heap} {b : Nat} {s : AS} {S : Nat → Prop} {n : Nat} {a d : Int} {Q : Den KP2 → Heap → Prop}, RA h0 b s S h → s.Fit n → n ≤ 1000000000 → (∀ g e S' h', ((arenaA s (.add a d)).1 = some g ∧ e = 0 ∨ (arenaA s (.add a d)).1 = none ∧ e ≠ 0) → RA h0 b (arenaA s (.add a d)).2 S' h' → Step S S' h h' → Q (g, (e, ())) h') → cA (.iface T (.pointer (some (ptr b)))) a d h Q
def CasP (T : TypeId) (c : Value → Int → Heap → (Den KP2 → Heap → Prop) → Prop) : Prop := ∀ {h0 h : Heap} {b bA p4 p6 : Nat} {m : AS} {S : Nat → Prop} {s : PSt} {r : Den KPr} {n : Nat} {i : Int} {Q : Den KP2 → Heap → Prop}, RA h0 bA m S h → m.Fit n → n ≤ 1000000000 → PO h b s r → Obj h p6 .iface (.iface T (.pointer (some (ptr bA)))) → Obj h p4 .ptr (some ((ptr b).add 0)) →
  (∀ g e S' h', ((arenaI m (.cas (s.flag i) 1 0)).1 = some g ∧ e = 0 ∨ (arenaI m (.cas (s.flag i) 1 0)).1 = none ∧ e ≠ 0) → RA h0 bA (arenaI m (.cas (s.flag i) 1 0)).2 S' h' → Step S S' h h' → Q (g, (e, ())) h') →
  c (Value.func (.func 67) (List.toArray []) (List.toArray [Kd.val (.ptr : Kd) (some (ptr p6)), Kd.val (.ptr : Kd) (some (ptr p4))])) i h Q
theorem pcas_spec {T : TypeId} {cf cL cS cC cA cN} (iF : FlagP cf) (k : ArP T cL cS cC cA cN) {h0 h : Heap} {b bA p4 p6 : Nat} {m : AS} {S : Nat → Prop} {s : PSt} {r : Den KPr} {n : Nat} {i : Int} {Q : Den KP2 → Heap → Prop} (ra : RA h0 bA m S h) (ft : m.Fit n) (hn : n ≤ 1000000000) (o : PO h b s r) (o6 : Obj h p6 .iface (.iface T (.pointer (some (ptr bA))))) (o4 : Obj h p4 .ptr (some ((ptr b).add 0)))
    (hQ : ∀ g e S' h', ((arenaI m (.cas (s.flag i) 1 0)).1 = some g ∧ e = 0 ∨ (arenaI m (.cas (s.flag i) 1 0)).1 = none ∧ e ≠ 0) → RA h0 bA (arenaI m (.cas (s.flag i) 1 0)).2 S' h' → Step S S' h h' → Q (g, (e, ())) h') :
    park_state_access_1.M cf cC cN i (some (ptr p6)) (some (ptr p4)) h Q := by
  refine dN (o6.ld (kf := .iface) (y := (.iface T (.pointer (some (ptr bA))))) (off := 0) ⟨[], [], rfl, rfl⟩ ⟨k.nil bA _ (by simp), dN (o4.ld (kf := .ptr) (y := some ((ptr b).add 0)) (off := 0) ⟨[], [], rfl, rfl⟩ (iF o ⟨o6.sees (kf := .iface) (off := 0) ⟨[], [], rfl, rfl⟩, k.cas ra ft hn fun g e S' h' hg ra' st' => ?_⟩))⟩)
  cases g with
  | true => exact ⟨fun _ => hQ 1 e S' h' hg ra' st', fun q => (by cases q)⟩
  | false => exact ⟨fun q => (by cases q), fun _ => hQ 0 e S' h' hg ra' st'⟩
def AccessP (T : TypeId) (c : Option Addr → Value → Heap → (Den KP2 → Heap → Prop) → Prop) : Prop := ∀ {h0 h : Heap} {b bA : Nat} {m : AS} {S : Nat → Prop} {s : PSt} {r : Den KPr} {n : Nat} {Q : Den KP2 → Heap → Prop}, RA h0 bA m S h → m.Fit n → n ≤ 1000000000 → PO h b s r → s.workers ≠ 0 →
  (∀ g e S' h', ((arenaA m s.req).1 = some g ∧ e = 0 ∨ (arenaA m s.req).1 = none ∧ e ≠ 0) → RA h0 bA (arenaA m s.req).2 S' h' → Step S S' h h' → Q (g, (e, ())) h') → c (some ((ptr b).add 0)) (.iface T (.pointer (some (ptr bA)))) h Q
theorem paccess_spec {T : TypeId} {cf co cL cS cC cA cN cF} (iF : FlagP cf) (k : ArP T cL cS cC cA cN) (iC : CasP T cF) (iO : OtherP co) : AccessP T (park_state_access.M cf cS cA cL cF co cN) := by
  intro h0 h b bA m S s r n Q ra ft hn o hw hQ
  refine Obj.new (k := .ptr) (x := some ((ptr b).add 0)) fun p4 h1 hp4 o4 l1 => ⟨fun v hv => by simp [Kd.cells] at hv; subst hv; rfl, Obj.new (k := .iface) (x := (.iface T (.pointer (some (ptr bA))))) fun p6 h2 hp6 o6 l2 => ?_⟩
  have l12 := l1.trans l2
  have ra2 := ra.more l12
  have o2 := o.le l12
  have o42 : Obj h2 p4 .ptr (some ((ptr b).add 0)) := o4.le l2
  have hQ : ∀ g e S' h', ((arenaA m s.req).1 = some g ∧ e = 0 ∨ (arenaA m s.req).1 = none ∧ e ≠ 0) → RA h0 bA (arenaA m s.req).2 S' h' → Step S S' h2 h' → Q (g, (e, ())) h' := fun g e S' h' a b c => hQ g e S' h' a b (c.pre l12)
  have L4 : ∀ {K : Option Addr → Prop}, K (some ((ptr b).add 0)) → ld .ptr h2 (ptr p4) K := fun {K} q => o42.ld (kf := .ptr) (y := some ((ptr b).add 0)) (off := 0) ⟨[], [], rfl, rfl⟩ q
  have L6 : ∀ {K : Value → Prop}, K (.iface T (.pointer (some (ptr bA)))) → ld .iface h2 (ptr p6) K := fun {K} q => o6.ld (kf := .iface) (y := (.iface T (.pointer (some (ptr bA))))) (off := 0) ⟨[], [], rfl, rfl⟩ q
  have S6 : sees h2 (some (ptr p6)) .iface (.iface T (.pointer (some (ptr bA)))) := o6.sees (kf := .iface) (off := 0) ⟨[], [], rfl, rfl⟩
  unfold PSt.req at hQ
  refine L4 (dN (o2.at (i := 4) rfl rfl ⟨fun e => ?_, fun e => ⟨fun e2 => ?_, fun e2 => ⟨fun e3 => ?_, fun e3 => ⟨fun e5 => ?_, fun e5 => ⟨fun e6 => ?_, fun e6 => ⟨fun e7 => ?_, fun e7 => ⟨fun e8 => ?_, fun e8 => ⟨fun e9 => ?_, fun e9 => ?_⟩⟩⟩⟩⟩⟩⟩⟩))
  · rw [if_pos (of_decide_eq_true e)] at hQ
    exact L6 ⟨k.nil bA _ (by simp), L4 (L4 (dN (o2.at (i := 2) rfl rfl (iF o2 ⟨S6, k.store ra2 ft hn fun er S' h' hg ra' st' => hQ 0 er S' h' hg ra' st'⟩))))⟩
  · rw [if_neg (of_decide_eq_false e), if_pos (of_decide_eq_true e2)] at hQ
    exact L6 ⟨k.nil bA _ (by simp), L4 (dN (o2.at (i := 0) rfl rfl (k.add ra2 ft hn hQ)))⟩
  · rw [if_neg (of_decide_eq_false e), if_neg (of_decide_eq_false e2), if_pos (of_decide_eq_true e3)] at hQ
    exact L6 ⟨k.nil bA _ (by simp), L4 (dN (o2.at (i := 0) rfl rfl (k.load ra2 ft hn hQ)))⟩
  · rw [if_neg (of_decide_eq_false e), if_neg (of_decide_eq_false e2), if_neg (of_decide_eq_false e3), if_pos (of_decide_eq_true e5)] at hQ
    exact L6 ⟨k.nil bA _ (by simp), L4 (L4 (dN (o2.at (i := 2) rfl rfl (iF o2 ⟨S6, k.load ra2 ft hn hQ⟩))))⟩
  · rw [if_neg (of_decide_eq_false e), if_neg (of_decide_eq_false e2), if_neg (of_decide_eq_false e3), if_neg (of_decide_eq_false e5), if_pos (of_decide_eq_true e6)] at hQ
    exact L4 (dN (o2.at (i := 2) rfl rfl (iC ra2 ft hn o2 o6 o42 hQ)))
  · rw [if_neg (of_decide_eq_false e), if_neg (of_decide_eq_false e2), if_neg (of_decide_eq_false e3), if_neg (of_decide_eq_false e5), if_neg (of_decide_eq_false e6), if_pos (of_decide_eq_true e7)] at hQ
    exact L6 ⟨k.nil bA _ (by simp), L4 (dN (o2.at (i := 0) rfl rfl (k.add ra2 ft hn hQ)))⟩
  · rw [if_neg (of_decide_eq_false e), if_neg (of_decide_eq_false e2), if_neg (of_decide_eq_false e3), if_neg (of_decide_eq_false e5), if_neg (of_decide_eq_false e6), if_neg (of_decide_eq_false e7), if_pos (of_decide_eq_true e8)] at hQ
    exact L6 ⟨k.nil bA _ (by simp), L4 (dN (o2.at (i := 0) rfl rfl (k.load ra2 ft hn hQ)))⟩
  · rw [if_neg (of_decide_eq_false e), if_neg (of_decide_eq_false e2), if_neg (of_decide_eq_false e3), if_neg (of_decide_eq_false e5), if_neg (of_decide_eq_false e6), if_neg (of_decide_eq_false e7), if_neg (of_decide_eq_false e8), if_pos (of_decide_eq_true e9)] at hQ
    exact L4 (iO o2 hw (iC ra2 ft hn o2 o6 o42 hQ))
  · rw [if_neg (of_decide_eq_false e), if_neg (of_decide_eq_false e2), if_neg (of_decide_eq_false e3), if_neg (of_decide_eq_false e5), if_neg (of_decide_eq_false e6), if_neg (of_decide_eq_false e7), if_neg (of_decide_eq_false e8), if_neg (of_decide_eq_false e9)] at hQ
    exact L6 ⟨k.nil bA _ (by simp), L4 (dN (o2.at (i := 0) rfl rfl (k.store ra2 ft hn fun er S' h' hg ra' st' => hQ 0 er S' h' hg ra' st')))⟩
def POp.Safe (o : POp) : Prop := o.st.kind = 0 ∨ o.st.at_ = 0 ∨ (o.st.workers ≠ 0 ∧ (o.st.at_ = 4 → o.look.Ok ∧ AroundOk o.st) ∧ (o.st.at_ = 3 → o.st.kind = 1 → AroundOk o.st))
theorem RelP.safe {ds : List (Den KP2)} {o : POp} {r : R9} (R : RelP ds o r) : o.Safe := by
  rcases R with ⟨_, h, _, _⟩ | R
  · exact h.elim .inl fun h => .inr (.inl h)
  · have w1 := R.w1
    have w2 := R.w2
    have ao : ∀ {k : Int}, o.st.k = k → 0 ≤ k → k < o.st.workers → AroundOk o.st := fun {k} e k0 k1 => by
      by_cases c : o.st.workers ≤ w64 (o.st.k + 1)
      · exact .inl c
      · have ek := w64_succ (k := o.st.k) (by omega) (by omega)
        obtain ⟨g0, g1, _⟩ := other_rng (k := o.st.k + 1) w1 w2 R.s0 R.s1 (by omega) (by omega)
        refine .inr ⟨?_, ?_, by omega⟩
        · show 0 ≤ Int.tmod (w64 (o.st.self + w64 (o.st.k + 1))) o.st.workers
          rw [ek]; exact g0
        · show Int.tmod (w64 (o.st.self + w64 (o.st.k + 1))) o.st.workers < 64
          rw [ek]; omega
    refine .inr (.inr ⟨by omega, fun h => ?_, fun h hk => ?_⟩)
    · rcases R.at_ with ⟨_, _, _, c⟩ | ⟨_, c⟩ | ⟨_, c, d⟩ | ⟨_, c⟩
      · rcases c with c | c | c | ⟨c1, c2, c3, c4, c | c⟩ | c | c | c
        · omega
        · omega
        · omega
        · refine ⟨?_, ao rfl (by omega) c4⟩
          rw [c.2]; unfold DOp.Ok; simp
        · refine ⟨?_, ao rfl (by omega) c4⟩
          rw [c.2]; unfold DOp.Ok; simp
        · omega
        · omega
        · omega
      · omega
      · omega
      · omega
    · rcases R.at_ with ⟨_, _, _, c⟩ | ⟨_, c⟩ | ⟨_, c, d⟩ | ⟨_, c⟩
      · rcases c with c | c | c | c | c | c | c
        · omega
        · omega
        · exact ao c.2.2.1 (by omega) (by omega)
        · omega
        · omega
        · omega
        · omega
      · omega
      · omega
      · omega
def StepPC (T : TypeId) (c : Value → Den KPOp → Heap → (Den KPOp → Heap → Prop) → Prop) : Prop := ∀ {h0 h : Heap} {bA : Nat} {m : AS} {S : Nat → Prop} {o : POp} {n : Nat} {Q : Den KPOp → Heap → Prop}, RA h0 bA m S h → m.Fit n → n ≤ 1000000000 → o.Safe →
  (∀ S' h', RA h0 bA (stepP m o).1 S' h' → Step S S' h h' → Q (stepP m o).2.den h') → c (.iface T (.pointer (some (ptr bA)))) o.den h Q
section
variable {T : TypeId} {c1 : Option Addr → Int → Int → Heap → (Unit → Heap → Prop) → Prop} {c2 : Den KPOp → Value → Heap → (Den KPOp → Heap → Prop) → Prop} {c3 : Option Addr → Value → Heap → (Den KP2 → Heap → Prop) → Prop} {c4 : Den KPOp → Int → Heap → (Den KPOp → Heap → Prop) → Prop} {c5 c6 : Option Addr → Int → Heap → (Unit → Heap → Prop) → Prop}
theorem pstep_spec (iV : OverP c1) (iL : LookedP T c2) (iA : AccessP T c3) (iR : RestedP c4) (iW : WokenP PSt.woken c5) (iF : WokenP PSt.finished c6) : StepPC T (park_Step.M c1 c2 c3 c4 c5 c6) := by
  intro h0 h bA m S o n Q ra ft hn sf hQ
  refine PO.new fun b h1 hb o1 l1 => ?_
  have ra1 := ra.more l1
  have hbS : ¬ S b := fun q => ra.live q hb
  have hb0 : h0 b = none := ra.le.none hb
  have idle : (o.st.kind = 0 ∨ o.st.at_ = 0) → park_Step.j3 c1 c2 c3 c4 c5 c6 (.iface T (.pointer (some (ptr bA)))) Q (ptr b) (true, ()) h1 := fun z => by
    have e : stepP m o = (m, o) := by
      unfold stepP
      by_cases q : o.st.kind = 0
      · rw [if_pos q]
      · rw [if_neg q, if_pos (z.resolve_left q)]
    rw [e] at hQ
    exact ⟨fun _ => o1.all (hQ S h1 ra1 ((Step.refl S h1).pre l1)), fun q => (by cases q)⟩
  refine o1.at (i := 3) rfl rfl ⟨fun e => idle (.inl (of_decide_eq_true e)), fun e => o1.at (i := 4) rfl rfl ?_⟩
  have e : ¬ o.st.kind = 0 := of_decide_eq_false e
  by_cases e0 : o.st.at_ = 0
  · rw [decide_eq_true e0]; exact idle (.inr e0)
  rw [decide_eq_false e0]
  obtain ⟨w0, s4, s3⟩ := (sf.resolve_left e).resolve_left e0
  unfold stepP at hQ
  rw [if_neg e, if_neg e0] at hQ
  refine ⟨fun q => (by cases q), fun _ => ⟨trivial, fun q => (by cases q), fun _ => dN (o1.at (i := 4) rfl rfl ⟨fun f => ?_, fun f => ?_⟩)⟩⟩
  · have f : o.st.at_ = 4 := of_decide_eq_true f
    rw [if_pos f] at hQ
    exact dN (o1.all (iL (o := o) ra1 ft hn (s4 f).1 (s4 f).2 fun S' h' r s => hQ S' h' r (s.pre l1)))
  · have f : ¬ o.st.at_ = 4 := of_decide_eq_false f
    rw [if_neg f] at hQ
    refine dN (iA ra1 ft hn o1 w0 fun g er S2 h2 hg ra2 st2 => ?_)
    have o2 := o1.ext st2.1 hbS
    have hbS2 : ¬ S2 b := st2.off (T := (· = b)) (fun x e q => by subst e; exact hbS q) (fun x e => by subst e; exact o1.live) b rfl
    have fin : ∀ {h4}, Ext (· = b) h2 h4 → RA h0 bA (arenaA m o.st.req).2 S2 h4 ∧ Step S S2 h h4 := fun {h4} x => ⟨ra2.ext x (fun z q e => by subst e; exact hbS2 q) (fun z e => by subst e; exact hb0), Step.new l1 hb st2 x⟩
    refine ⟨fun d => ?_, fun d => ?_⟩
    · have d : er ≠ 0 := of_decide_eq_true d
      have hr := (hg.resolve_left fun q => d q.2).1
      rw [hr] at hQ
      refine dN (iV o2 fun h3 o3 x3 => dN (o3.all ?_))
      obtain ⟨r, s⟩ := fin x3
      exact hQ S2 h3 r s
    · have d : er = 0 := Decidable.not_not.1 (of_decide_eq_false d)
      have hr := (hg.resolve_right fun q => q.2 d).1
      rw [hr] at hQ
      unfold POp.after at hQ
      have k1 : ∀ {h3 : Heap} {s' : PSt} {x}, PO h3 b s' (o.ds, (o.look.den, ())) → Q (POp.den ⟨s', o.ds, o.look⟩) h3 → park_Step.k1 Q (some (ptr b), x) h3 := fun {h3 s' x} o3 q => dN (o3.all q)
      refine dN (o2.at (i := 3) rfl rfl ⟨fun k => ?_, fun k => ⟨fun k2 => ?_, fun k2 => ⟨fun k3 => ?_, fun k3 => ?_⟩⟩⟩)
      · have k : o.st.kind = 1 := of_decide_eq_true k
        dsimp only at hQ
        rw [if_pos k] at hQ
        refine dN (o2.all (iR (o := o) (fun z => s3 z k) fun h3 l3 => ?_))
        obtain ⟨r, s⟩ := fin (.refl _ _)
        exact hQ S2 h3 (r.more l3) ⟨⟨fun z ob e q => l3 z ob (s.1.1 z ob e q), fun z e => s.1.2 z (l3.none e)⟩, s.2⟩
      · have k : ¬ o.st.kind = 1 := of_decide_eq_false k
        have k2 : o.st.kind = 2 := of_decide_eq_true k2
        dsimp only at hQ
        rw [if_neg k, if_pos k2] at hQ
        refine dN (iW o2 w0 fun h3 o3 x3 => k1 o3 ?_)
        obtain ⟨r, s⟩ := fin x3
        exact hQ S2 h3 r s
      · have k : ¬ o.st.kind = 1 := of_decide_eq_false k
        have k2 : ¬ o.st.kind = 2 := of_decide_eq_false k2
        have k3 : o.st.kind = 3 := of_decide_eq_true k3
        dsimp only at hQ
        rw [if_neg k, if_neg k2, if_pos k3] at hQ
        refine dN (iV o2 fun h3 o3 x3 => ⟨fun d => ?_, fun d => ?_⟩)
        · have d : g = 1 := of_decide_eq_true d
          rw [if_pos d] at hQ
          refine dN (o3.set (i := 7) (s' := o.st.over 17 0) (by decide) rfl (by rw [add_add']) fun h4 o4 x4 => k1 o4 ?_)
          obtain ⟨r, s⟩ := fin (x3.trans x4)
          exact hQ S2 h4 r s
        · have d : ¬ g = 1 := of_decide_eq_false d
          rw [if_neg d] at hQ
          obtain ⟨r, s⟩ := fin x3
          exact k1 o3 (hQ S2 h3 r s)
      · have k : ¬ o.st.kind = 1 := of_decide_eq_false k
        have k2 : ¬ o.st.kind = 2 := of_decide_eq_false k2
        have k3 : ¬ o.st.kind = 3 := of_decide_eq_false k3
        dsimp only at hQ
        rw [if_neg k, if_neg k2, if_neg k3] at hQ
        refine dN (iF o2 w0 fun h3 o3 x3 => k1 o3 ?_)
        obtain ⟨r, s⟩ := fin x3
        exact hQ S2 h3 r s
end
end Go.Mx
