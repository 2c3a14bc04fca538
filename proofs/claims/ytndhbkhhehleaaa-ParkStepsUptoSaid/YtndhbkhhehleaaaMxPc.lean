/-
  Parking: the walks of what all machines of a lot share.
-/
import Derived.Test.YtndhbkhhehleaaaMxPb
set_option linter.unusedVariables false
set_option linter.unusedSimpArgs false
set_option linter.unusedSectionVars false
namespace Go.Mx

abbrev KPr : Kd := .pair (.arr 64 KP2) (.pair KOp .nil)
/-- A machine in memory. -/
def PO (h : Heap) (b : Nat) (s : PSt) (r : Den KPr) : Prop := Obj h b KPOp (s.den, r)
def PSt.list (s : PSt) : List Value := [.int .i64 s.base, .int .i64 s.workers, .int .i64 s.self, .int .i64 s.kind, .int .i64 s.at_, .int .i64 s.k, .int .i64 s.then_, .int .i64 s.code, .int .i64 s.value]
theorem PO.cells (s : PSt) (r : Den KPr) : KPOp.cells (s.den, r) = s.list ++ KPr.cells r := rfl
theorem PO.ext {h h' b s r} (o : PO h b s r) {S : Nat → Prop} (e : Ext S h h') (n : ¬ S b) : PO h' b s r := Obj.ext o e n
theorem PO.le {h h' b s r} (o : PO h b s r) (e : Go.Mx.le h h') : PO h' b s r := Obj.le o e
theorem PO.live {h b s r} (o : PO h b s r) : h b ≠ none := Obj.live o
theorem PO.at {h b s r} (o : PO h b s r) {i : Nat} {x : Int} (hx : s.list[i]? = some (.int .i64 x)) {a : Addr} (ha : a = (ptr b).add i) {K : Int → Prop} (hK : K x) : ld ki h a K := by
  subst ha
  have hl : i < s.list.length := (List.getElem?_eq_some_iff.1 hx).1
  refine Obj.ld (k := KPOp) (kf := ki) (y := x) o ⟨s.list.take i, s.list.drop (i + 1) ++ KPr.cells r, ?_, by rw [List.length_take]; omega⟩ hK
  rw [PO.cells]
  have e : s.list = s.list.take i ++ [Value.int .i64 x] ++ s.list.drop (i + 1) := by
    have := (List.getElem?_eq_some_iff.1 hx).2
    rw [← this, List.append_assoc, List.singleton_append, List.getElem_cons_drop, List.take_append_drop]
  conv => lhs; rw [e]
  simp only [List.append_assoc]
  rfl
theorem PO.set {h b s r} (o : PO h b s r) {i : Nat} (hi : i < 9) {x : Int} {s' : PSt} (hs : s'.list = s.list.set i (.int .i64 x)) {a : Addr} (ha : a = (ptr b).add i) {K : Heap → Prop} (hK : ∀ h', PO h' b s' r → Ext (· = b) h h' → K h') : st ki h a x K := by
  subst ha
  refine Obj.st (k := KPOp) (kf := ki) (v := x) (off := i) (x' := (s'.den, r)) o ?_ (by show i + 1 ≤ 153; omega) rfl hK
  rw [PO.cells, PO.cells, hs]
  show _ = splice (s.list ++ KPr.cells r) i [Value.int .i64 x]
  have hl : s.list.length = 9 := rfl
  unfold splice
  rw [List.take_append_of_le_length (by omega), List.drop_append_of_le_length (by simp; omega), List.set_eq_take_append_cons_drop, if_pos (by omega)]
  simp
theorem POp.split (o : POp) : o.den = (o.st.den, (o.ds, (o.look.den, ()))) := rfl
def OverP (c : Option Addr → Int → Int → Heap → (Unit → Heap → Prop) → Prop) : Prop := ∀ {h b s r code v} {Q : Unit → Heap → Prop}, PO h b s r → (∀ h', PO h' b (s.over code v) r → Ext (· = b) h h' → Q () h') → c (some ((ptr b).add 0)) code v h Q
def BackP (c : Option Addr → Int → Heap → (Unit → Heap → Prop) → Prop) : Prop := ∀ {h b s r code} {Q : Unit → Heap → Prop}, PO h b s r → (∀ h', PO h' b (s.back code) r → Ext (· = b) h h' → Q () h') → c (some ((ptr b).add 0)) code h Q
def OtherP (c : Option Addr → Heap → (Int → Heap → Prop) → Prop) : Prop := ∀ {h b s r} {Q : Int → Heap → Prop}, PO h b s r → s.workers ≠ 0 → Q s.other h → c (some ((ptr b).add 0)) h Q
def FlagP (c : Option Addr → Int → Heap → (Int → Heap → Prop) → Prop) : Prop := ∀ {h b s r i} {Q : Int → Heap → Prop}, PO h b s r → Q (s.flag i) h → c (some ((ptr b).add 0)) i h Q
def WokenP (f : PSt → Int → PSt) (c : Option Addr → Int → Heap → (Unit → Heap → Prop) → Prop) : Prop := ∀ {h b s r g} {Q : Unit → Heap → Prop}, PO h b s r → s.workers ≠ 0 → (∀ h', PO h' b (f s g) r → Ext (· = b) h h' → Q () h') → c (some ((ptr b).add 0)) g h Q
def AroundP (c : Den KPOp → Heap → (Den KPOp → Heap → Prop) → Prop) : Prop := ∀ {h} {o : POp} {Q : Den KPOp → Heap → Prop}, (o.st.workers ≤ w64 (o.st.k + 1) ∨ (0 ≤ PSt.other { o.st with k := w64 (o.st.k + 1), at_ := 4 } ∧ PSt.other { o.st with k := w64 (o.st.k + 1), at_ := 4 } < 64 ∧ o.st.workers ≠ 0)) → (∀ h', le h h' → Q o.around.den h') → c o.den h Q
theorem dN {a : Addr} {K : Addr → Prop} (h : K a) : deref (some a) K := h
theorem pover_spec : OverP park_state_over.M := by
  intro h b s r code v Q o hQ
  refine dN (o.set (i := 4) (s' := { s with at_ := 0 }) (by decide) rfl rfl fun h1 o1 x1 => dN (o1.set (i := 7) (s' := { s with at_ := 0, code := code }) (by decide) rfl rfl fun h2 o2 x2 => dN (o2.set (i := 8) (s' := s.over code v) (by decide) rfl rfl fun h3 o3 x3 => hQ h3 o3 ((x1.trans x2).trans x3))))
theorem pback_spec : BackP park_state_back.M := by
  intro h b s r code Q o hQ
  refine dN (o.set (i := 6) (s' := { s with then_ := code }) (by decide) rfl rfl fun h1 o1 x1 => dN (o1.set (i := 4) (s' := s.back code) (by decide) rfl rfl fun h2 o2 x2 => hQ h2 o2 (x1.trans x2)))
theorem pother_spec : OtherP park_state_other.M := by
  intro h b s r Q o hw hQ
  exact dN (dN (dN (o.at (i := 2) rfl rfl (o.at (i := 5) rfl rfl (o.at (i := 1) rfl rfl ⟨hw, hQ⟩)))))
theorem pflag_spec : FlagP park_state_flag.M := by
  intro h b s r i Q o hQ
  exact dN (o.at (i := 0) rfl rfl hQ)
theorem pwoken_spec {cv co} (iV : OverP cv) (iO : OtherP co) : WokenP PSt.woken (park_state_woken.M cv co) := by
  intro h b s r g Q o hw hQ
  unfold PSt.woken at hQ
  refine dN (o.at (i := 4) rfl rfl ⟨fun e => ?_, fun e => ⟨fun e2 => ?_, fun e2 => ⟨fun e3 => ?_, fun e3 => ?_⟩⟩⟩)
  · have e : s.at_ = 8 := of_decide_eq_true e
    rw [if_pos e] at hQ
    refine dN (o.set (i := 4) (s' := { s with at_ := 9 }) (by decide) rfl rfl fun h1 o1 x1 => ⟨fun d => ?_, fun d => ?_⟩)
    · have d : g ≤ 0 := of_decide_eq_true d
      rw [if_pos d] at hQ
      exact ⟨fun _ => iV o1 fun h2 o2 x2 => hQ h2 o2 (x1.trans x2), fun q => (by cases q)⟩
    · have d : ¬ g ≤ 0 := of_decide_eq_false d
      rw [if_neg d] at hQ
      refine dN (o1.at (i := 1) rfl rfl ⟨fun f => ?_, fun f => ?_⟩)
      · have f : s.workers = 1 := of_decide_eq_true f
        rw [if_pos f] at hQ
        exact iV o1 fun h2 o2 x2 => hQ h2 o2 (x1.trans x2)
      · have f : ¬ s.workers = 1 := of_decide_eq_false f
        rw [if_neg f] at hQ
        exact hQ h1 o1 x1
  · have e : ¬ s.at_ = 8 := of_decide_eq_false e
    have e2 : s.at_ = 9 := of_decide_eq_true e2
    rw [if_neg e, if_pos e2] at hQ
    refine ⟨fun d => ?_, fun d => ?_⟩
    · rw [if_pos (of_decide_eq_true d)] at hQ
      exact dN (o.set (i := 4) (s' := { s with at_ := 7 }) (by decide) rfl rfl hQ)
    · rw [if_neg (of_decide_eq_false d)] at hQ
      refine dN (o.at (i := 5) rfl rfl (dN (o.set (i := 5) (s' := { s with k := w64 (s.k + 1) }) (by decide) rfl rfl fun h1 o1 x1 => dN (dN (o1.at (i := 5) rfl rfl (o1.at (i := 1) rfl rfl ⟨fun f => ?_, fun f => ?_⟩))))))
      · have f : w64 (s.k + 1) = s.workers := of_decide_eq_true f
        rw [if_pos f] at hQ
        exact iV o1 fun h2 o2 x2 => hQ h2 o2 (x1.trans x2)
      · have f : ¬ w64 (s.k + 1) = s.workers := of_decide_eq_false f
        rw [if_neg f] at hQ
        exact hQ h1 o1 x1
  · have e : ¬ s.at_ = 8 := of_decide_eq_false e
    have e2 : ¬ s.at_ = 9 := of_decide_eq_false e2
    rw [if_neg e, if_neg e2, if_pos (of_decide_eq_true e3)] at hQ
    exact iO o hw (iV o hQ)
  · have e : ¬ s.at_ = 8 := of_decide_eq_false e
    have e2 : ¬ s.at_ = 9 := of_decide_eq_false e2
    rw [if_neg e, if_neg e2, if_neg (of_decide_eq_false e3)] at hQ
    exact hQ h o (.refl _ _)
theorem pfinished_spec {cv} (iV : OverP cv) : WokenP PSt.finished (park_state_finished.M cv) := by
  intro h b s r g Q o hw hQ
  have fin : ∀ h1 s', PO h1 b s' r → Ext (· = b) h h1 → (∀ h', PO h' b s'.fin r → Ext (· = b) h h' → Q () h') → park_state_finished.j1 cv (some ((ptr b).add 0)) Q () h1 := fun h1 s' o1 x1 hQ => by
    unfold PSt.fin at hQ
    refine dN (dN (o1.at (i := 5) rfl rfl (o1.at (i := 1) rfl rfl ⟨fun f => ?_, fun f => ?_⟩)))
    · have f : s'.workers ≤ s'.k := of_decide_eq_true f
      rw [if_pos f] at hQ
      exact iV o1 fun h2 o2 x2 => hQ h2 o2 (x1.trans x2)
    · have f : ¬ s'.workers ≤ s'.k := of_decide_eq_false f
      rw [if_neg f] at hQ
      exact hQ h1 o1 x1
  have nxt : (∀ h', PO h' b (PSt.fin { s with at_ := 9, k := w64 (s.k + 1) }) r → Ext (· = b) h h' → Q () h') → park_state_finished.j2 cv (some ((ptr b).add 0)) Q (false, ()) h := fun hQ =>
    ⟨fun e => (by cases e), fun _ => dN (o.set (i := 4) (s' := { s with at_ := 9 }) (by decide) rfl rfl fun h1 o1 x1 => dN (o1.at (i := 5) rfl rfl (dN (o1.set (i := 5) (s' := { s with at_ := 9, k := w64 (s.k + 1) }) (by decide) rfl rfl fun h2 o2 x2 => fin h2 _ o2 (x1.trans x2) hQ))))⟩
  unfold PSt.finished at hQ
  refine dN (o.at (i := 4) rfl rfl ⟨fun e => ?_, fun e => dN (o.at (i := 4) rfl rfl ⟨fun e2 => ?_, fun e2 => ?_⟩)⟩)
  · rw [if_pos (of_decide_eq_true e)] at hQ
    exact dN (o.set (i := 4) (s' := { s with at_ := 9 }) (by decide) rfl rfl fun h1 o1 x1 => fin h1 _ o1 x1 hQ)
  · have e : ¬ s.at_ = 10 := of_decide_eq_false e
    rw [if_neg e, if_pos (of_decide_eq_true e2)] at hQ
    by_cases d : g = 1
    · rw [if_pos d] at hQ
      rw [decide_eq_true d]
      exact ⟨fun _ => dN (o.set (i := 4) (s' := { s with at_ := 7 }) (by decide) rfl rfl hQ), fun q => (by cases q)⟩
    · rw [if_neg d] at hQ
      rw [decide_eq_false d]
      exact nxt hQ
  · have e : ¬ s.at_ = 10 := of_decide_eq_false e
    rw [if_neg e, if_neg (of_decide_eq_false e2)] at hQ
    exact nxt hQ
end Go.Mx
