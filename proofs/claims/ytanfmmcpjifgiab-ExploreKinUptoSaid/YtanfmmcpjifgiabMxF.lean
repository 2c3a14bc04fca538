/-
  An operation that leaves the world as it is: one law for all.
-/
import Derived.Test.YtanfmmcpjifgiabMxE
set_option linter.unusedVariables false
set_option linter.unusedSimpArgs false
namespace Go.Mx

def biM (P : Program) (b : Builtin) (argTypes : Array TypeId) (args : List TV) (K : TV → Prop) : Prop :=
  match b with
  | .len => match argTypes[0]?, args with
    | some T, [x] => lenM P T x K
    | _, _ => False
  | .cap => match argTypes[0]?, args with
    | some T, [x] => capM P T x K
    | _, _ => False
  | .max => match args with
    | [x, y] => mmM true x y K
    | _ => False
  | .min => match args with
    | [x, y] => mmM false x y K
    | _ => False
  | _ => False

def isAggT (P : Program) (T : TypeId) : Bool :=
  match P.underlying T with
  | some (.struct _) | some (.array _ _) => true
  | _ => false
/-- '==' of structs and arrays. -/
def aggM (P : Program) (op : BinOp) (T : TypeId) (x y : TV) (K : TV → Prop) : Prop :=
  match isEq op, kdOf P D T with
  | some neg, some k => match tvVal k x, tvVal k y with
    | some a, some b => bif eqOk P D T k && !(P.eqGuardType P.depth T) && k.isAgg then K (.v .bool (bif neg then !(eqK k a b) else eqK k a b)) else False
    | _, _ => False
  | _, _ => False

/-- The values that are handed to a call; nothing that is a hidden variable's address. -/
def tvArg : TV → Option Value
  | .v k x => some (k.val x)
  | .kb b => some (.bool b)
  | _ => none
def tvArgs : List TV → Option (List Value)
  | [] => some []
  | x :: r => match tvArg x, tvArgs r with
    | some u, some l => some (u :: l)
    | _, _ => none
theorem tvArg_spec {κ : Nat → Nat} {x : TV} {u v : Value} (h : tvArg x = some u) (r : Rl κ x v) : v = u := by
  unfold tvArg at h
  split at h
  · cases h; exact r
  · cases h; exact r
  · cases h
theorem tvArgs_spec {κ : Nat → Nat} {ρ : Slots} {e : Operand → Value} (he : EvOk κ ρ e) : ∀ (args : List Operand) (l : List Value), tvArgs (args.map (ev ρ)) = some l → args.map e = l
  | [], l, h => by simp [tvArgs] at h; simp [h]
  | x :: args, l, h => by
    simp only [List.map_cons, tvArgs] at h
    split at h
    · rename_i u m hu hm
      cases h
      rw [List.map_cons, tvArgs_spec he args m hm, tvArg_spec hu (he.ev x)]
    · cases h

/-! ### interfaces and functions as values -/
def isNilC : Operand → Bool
  | .const .nilIface => true
  | _ => false
def isIfaceT (P : Program) (T : TypeId) : Bool :=
  match P.underlying T with
  | some (.interface _) => true
  | _ => false
/-- A function that is a value and no nil, nor a method of nil. -/
def NilT (P : Program) (v : Value) : Prop := ∀ (o : Oper) (e : Operand → Value) (x : Operand), o.op = .nilCheck x → e x = v → ∀ w, (execOp e o).run P w = .ok (.value v) w
def isNilI : Value → Bool
  | .nilIface => true
  | _ => false
def isI : Value → Prop
  | .nilIface | .iface _ _ => True
  | _ => False
/-- '==' of an interface and nil. -/
def nilIM (op : BinOp) (x : TV) (K : TV → Prop) : Prop :=
  match isEq op with
  | some neg => match x with
    | .v .iface v => isI v ∧ K (.v .bool (bif neg then !(isNilI v) else isNilI v))
    | _ => False
  | none => False
def mkIM (P : Program) (T : TypeId) (x : TV) (K : TV → Prop) : Prop :=
  match P.underlying T with
  | some (.interface _) => False
  | some _ => match kdOf P D T with
    | some k => match tvVal k x with
      | some y => K (.v .iface (.iface T (k.val y)))
      | none => False
    | none => False
  | none => False
def mkFM (f : Fn) (first captured : List TV) (K : TV → Prop) : Prop :=
  match tvArgs first, tvArgs captured with
  | some a, some b => K (.v .fn (.func f a.toArray b.toArray))
  | _, _ => False

def silM (P : Program) (o : Op) (ρ : Slots) (β : Boxes) (h : Heap) (K : TV → Prop) : Prop :=
  match o with
  | .move x => K (ev ρ x)
  | .assign x => K (ev ρ x)
  | .pick c a b => pickM (ev ρ c) (ev ρ a) (ev ρ b) K
  | .makeInterface T x => mkIM P T (ev ρ x) K
  | .makeFunc g a b => mkFM g (a.toList.map (ev ρ)) (b.toList.map (ev ρ)) K
  | .binOp op T x y _ => bif isNilC y && isIfaceT P T then nilIM op (ev ρ x) K else bif isAggT P T then aggM P op T (ev ρ x) (ev ρ y) K else binM P op T (ev ρ x) (ev ρ y) K
  | .unOp op _ x => unM op (ev ρ x) K
  | .convert s d x => convM P s d (ev ρ x) K
  | .nilCheck x => match ev ρ x with
    | .v .fn u => NilT P u ∧ K (.v .fn u)
    | t => nilCheckM t K
  | .load T a => loadM P T (ev ρ a) β h K
  | .fieldAddr T x f => fieldAddrM P T (ev ρ x) f K
  | .indexAddr T x i => indexAddrM P T (ev ρ x) (ev ρ i) K
  | .index T x i => indexM P T (ev ρ x) (ev ρ i) K
  | .field T x f => fieldM P T (ev ρ x) f K
  | .extract t i => extractM (ev ρ t) i K
  | .slice T x lo hi mx => sliceM P T (ev ρ x) (lo.map (ev ρ)) (hi.map (ev ρ)) (mx.map (ev ρ)) K
  | .build T parts => buildM P T (parts.toList.map fun p => (p.1, ev ρ p.2)) K
  | .lookup T x i ck => lookM P T (ev ρ x) (ev ρ i) ck h K
  | .call c => match c.callee with
    | .builtin b => biM P b c.argTypes (c.args.toList.map (ev ρ)) K
    | _ => False
  | _ => False

/-- Which operations it is for. -/
def isSil : Op → Bool
  | .move _ | .assign _ | .pick .. | .binOp .. | .unOp .. | .convert .. | .nilCheck _ | .load .. | .fieldAddr .. | .indexAddr .. | .index .. | .field .. | .extract .. | .slice .. | .build .. | .makeInterface .. | .makeFunc .. | .lookup .. => true
  | .call c => match c.callee with
    | .builtin .len | .builtin .cap | .builtin .max | .builtin .min => true
    | _ => false
  | _ => false

theorem ROpt_map {κ : Nat → Nat} {ρ : Slots} {e : Operand → Value} (he : EvOk κ ρ e) (x : Option Operand) : ROpt κ (x.map (ev ρ)) (x.map e) := by
  cases x with
  | none => trivial
  | some x => exact he.ev x

theorem addrM_sound {κ : Nat → Nat} {p : Option Addr} {off : Nat} {K : TV → Prop} (h : addrM p off K) : ∃ a tv, p = some a ∧ K tv ∧ Rl κ tv (.pointer (some (a.add off))) := by
  unfold addrM deref at h
  split at h
  · rename_i a; exact ⟨a, _, rfl, h, rfl⟩
  · cases h

theorem pairs_map {κ : Nat → Nat} {ρ : Slots} {e : Operand → Value} (he : EvOk κ ρ e) (l : List (Nat × Operand)) :
    Pairs (fun (p : Nat × TV) (q : Nat × Value) => p.1 = q.1 ∧ Rl κ p.2 q.2) (l.map fun p => (p.1, ev ρ p.2)) (l.map fun p => (p.1, e p.2)) := by
  induction l with
  | nil => exact .nil
  | cons p l ih => exact .cons ⟨rfl, he.ev p.2⟩ ih

theorem biM_sound {P : Program} {κ : Nat → Nat} {ρ : Slots} {e : Operand → Value} (he : EvOk κ ρ e) {b : Builtin} {argTypes : Array TypeId} {args : List Operand} {K : TV → Prop}
    (hm : biM P b argTypes (args.map (ev ρ)) K) (type : TypeId) (consts : Array Bool) :
    ∃ tv r, K tv ∧ Rl κ tv r ∧ ∀ w, (builtin b argTypes type consts (args.map e).toArray).run P w = .ok (.value r) w := by
  unfold biM at hm
  split at hm
  · split at hm
    · rename_i T x hT hargs
      cases args with
      | nil => simp at hargs
      | cons X args =>
        cases args with
        | cons _ _ => simp at hargs
        | nil =>
          simp at hargs
          subst hargs
          have hX := he.ev X
          unfold lenM at hm
          split at hm
          · rename_i hu
            split at hm
            · rename_i s hs
              rw [hs] at hX
              exact ⟨_, _, hm, rfl, fun w => by simp [builtin, Builtin.len_, hT, run_underlying' hu, show e X = s.val from hX, Sl.val, goInt, Kd.val]⟩
            · cases hm
          · rename_i hu
            split at hm
            · rename_i s hs
              rw [hs] at hX
              exact ⟨_, _, hm, rfl, fun w => by simp [builtin, Builtin.len_, hT, run_underlying' hu, show e X = .string s from hX, goInt, Kd.val]⟩
            · cases hm
          · rename_i hu
            exact ⟨_, _, hm, rfl, fun w => by simp [builtin, Builtin.len_, hT, run_underlying' hu, goInt, Kd.val]⟩
          · cases hm
    · cases hm
  · split at hm
    · rename_i T x hT hargs
      cases args with
      | nil => simp at hargs
      | cons X args =>
        cases args with
        | cons _ _ => simp at hargs
        | nil =>
          simp at hargs
          subst hargs
          have hX := he.ev X
          unfold capM at hm
          split at hm
          · rename_i hu s hs hx
            rw [hx] at hX
            exact ⟨_, _, hm, rfl, fun w => by simp [builtin, Builtin.cap_, hT, run_underlying' hs, show e X = s.val from hX, Sl.val, goInt, Kd.val]⟩
          · cases hm
    · cases hm
  · split at hm
    · rename_i x y hargs
      cases args with
      | nil => simp at hargs
      | cons X args =>
        cases args with
        | nil => simp at hargs
        | cons Y args =>
          cases args with
          | cons _ _ => simp at hargs
          | nil =>
            simp at hargs
            obtain ⟨rfl, rfl⟩ := hargs
            unfold mmM at hm
            split at hm
            · rename_i k a k' b ha hb
              cases hc : decide (k' = k)
              · rw [hc] at hm; exact hm.elim
              rw [hc] at hm
              have hc := of_decide_eq_true hc
              subst hc
              refine ⟨_, _, hm, rfl, fun w => ?_⟩
              have hX := asInt_spec ha (he.ev X)
              have hY := asInt_spec hb (he.ev Y)
              simp [builtin, Builtin.max_, Builtin.max2, hX, hY, Kd.val]
            · cases hm
    · cases hm
  · split at hm
    · rename_i x y hargs
      cases args with
      | nil => simp at hargs
      | cons X args =>
        cases args with
        | nil => simp at hargs
        | cons Y args =>
          cases args with
          | cons _ _ => simp at hargs
          | nil =>
            simp at hargs
            obtain ⟨rfl, rfl⟩ := hargs
            unfold mmM at hm
            split at hm
            · rename_i k a k' b ha hb
              cases hc : decide (k' = k)
              · rw [hc] at hm; exact hm.elim
              rw [hc] at hm
              have hc := of_decide_eq_true hc
              subst hc
              refine ⟨_, _, hm, rfl, fun w => ?_⟩
              have hX := asInt_spec ha (he.ev X)
              have hY := asInt_spec hb (he.ev Y)
              simp [builtin, Builtin.min_, Builtin.min2, hX, hY, Kd.val]
            · cases hm
    · cases hm
  · cases hm

theorem equalIn_nilI {P : Program} (d : Nat) {T : TypeId} {ms : Array (String × TypeId)} (hu : P.underlying T = some (.interface ms)) {v : Value} (hi : isI v) (w : World) : (Op.equalIn (d + 1) T v .nilIface).run P w = .ok (isNilI v) w := by
  cases v <;> first | exact hi.elim | (simp [Op.equalIn, run_underlying' hu, isNilI])
theorem nilI_sound {P : Program} {κ : Nat → Nat} {ρ : Slots} {β : Boxes} {h : Heap} {e : Operand → Value} {o : Oper} {op : BinOp} {T T' : TypeId} {x y : Operand} {K : TV → Prop} (ho : o.op = .binOp op T x y T') (he : EvOk κ ρ e)
    (hy : isNilC y = true) (hT : isIfaceT P T = true) (hm : nilIM op (ev ρ x) K) : Quiet P κ β h e o K := by
  have hex : execOp e o = (do pure (.value (← (do eqGuard op T x y (e x) (e y); binOp op T (e x) (e y))))) := by simp only [execOp, ho]
  unfold isNilC at hy
  split at hy
  · rw [he.const] at hex
    unfold isIfaceT at hT
    split at hT
    · rename_i ms hu
      have hx := he.ev x
      unfold nilIM at hm
      split at hm
      · rename_i neg hn
        split at hm
        · rename_i v hv
          rw [hv] at hx
          have hx : e x = v := hx
          obtain ⟨hi, hm⟩ := hm
          refine Quiet.mk' hex hm rfl fun w _ => ?_
          have hg : (eqGuard op T x (.const .nilIface) (e x) .nilIface).run P w = .ok () w := by
            rw [hx]
            unfold isEq at hn
            unfold eqGuard
            split at hn
            · cases v <;> first | exact hi.elim | rfl | (simp; done)
            · cases v <;> first | exact hi.elim | rfl | (simp; done)
            · cases hn
          simp only [Sem.run_bind, hg, Result.andThen_ok]
          rw [hx]
          have hq : (Op.equal T v .nilIface).run P w = .ok (isNilI v) w := by
            exact equalIn_nilI 9999 hu hi w
          unfold isEq at hn
          split at hn
          · cases hn
            cases v <;> first | exact hi.elim | (simp only [binOp, Sem.run_bind, hq, Result.andThen_ok, Sem.run_pure]; rfl)
          · cases hn
            cases v <;> first | exact hi.elim | (simp only [binOp, Sem.run_bind, hq, Result.andThen_ok, Sem.run_pure]; rfl)
          · cases hn
        · exact hm.elim
      · exact hm.elim
    · cases hT
  · cases hy

theorem silM_sound {P : Program} {κ : Nat → Nat} {ρ : Slots} {β : Boxes} {h : Heap} {e : Operand → Value} {o : Oper} {K : TV → Prop}
    (hm : silM P o.op ρ β h K) (he : EvOk κ ρ e) : Quiet P κ β h e o K := by
  cases ho : o.op with
  | move x => rw [ho] at hm; exact ⟨_, _, hm, he.ev x, fun w _ => by simp [execOp, ho]⟩
  | assign x => rw [ho] at hm; exact ⟨_, _, hm, he.ev x, fun w _ => by simp [execOp, ho]⟩
  | pick c a b =>
    rw [ho] at hm
    simp only [silM, pickM] at hm
    have hc := he.ev c
    split at hm
    · rename_i h1; rw [h1] at hc
      exact ⟨_, _, hm, he.ev a, fun w _ => by simp [execOp, ho, show e c = .bool true from hc, Go.asBool]⟩
    · rename_i h1; rw [h1] at hc
      exact ⟨_, _, hm, he.ev b, fun w _ => by simp [execOp, ho, show e c = .bool false from hc, Go.asBool]⟩
    · rename_i x h1; rw [h1] at hc
      split at hm
      · rename_i y z hy hz
        refine ⟨_, _, hm, rfl, fun w _ => ?_⟩
        have ha := asBool_spec hy (he.ev a)
        have hb := asBool_spec hz (he.ev b)
        simp only [execOp, ho, show e c = .bool x from hc, Go.asBool, ha, hb, Kd.val]
        cases x <;> rfl
      · cases hm
    · cases hm
  | binOp op T x y T' =>
    rw [ho] at hm
    simp only [silM] at hm
    cases hni : (isNilC y && isIfaceT P T)
    case' true =>
      rw [hni] at hm
      simp only [cond_true] at hm
      simp only [Bool.and_eq_true] at hni
      exact nilI_sound ho he hni.1 hni.2 hm
    rw [hni] at hm
    simp only [cond_false] at hm
    cases hag : isAggT P T
    · rw [hag] at hm; exact binM_sound ho hm (he.ev x) (he.ev y)
    · rw [hag] at hm
      simp only [cond_true] at hm
      unfold aggM at hm
      split at hm
      · rename_i neg k hneg hk
        split at hm
        · rename_i a b ha hb
          cases hc : (eqOk P D T k && !(P.eqGuardType P.depth T) && k.isAgg)
          · rw [hc] at hm; exact hm.elim
          · rw [hc] at hm
            simp only [cond_true] at hm
            simp only [Bool.and_eq_true, Bool.not_eq_true'] at hc
            obtain ⟨⟨c1, c2⟩, c3⟩ := hc
            have ex := tvVal_spec ha (he.ev x)
            have ey := tvVal_spec hb (he.ev y)
            rw [Kd.val_agg c3] at ex ey
            have hex : execOp e o = (do pure (.value (← (do eqGuard op T x y (e x) (e y); binOp op T (e x) (e y))))) := by simp only [execOp, ho]
            refine Quiet.mk' hex hm rfl fun w _ => ?_
            have h1 := eqOk_sound D T k c1 10000 (by decide) a b w
            rw [Kd.val_agg c3, Kd.val_agg c3] at h1
            simp only [ex, ey, Sem.run_bind, run_eqGuard_agg w op T x y _ _ c2, Result.andThen_ok]
            unfold isEq at hneg
            split at hneg
            · cases hneg
              rw [run_eql_struct, h1]; rfl
            · cases hneg
              rw [run_neq_struct, h1]; rfl
            · cases hneg
        · exact hm.elim
      · exact hm.elim
  | unOp op T x =>
    rw [ho] at hm
    simp only [silM, unM] at hm
    have hx := he.ev x
    have hex : execOp e o = (do pure (.value (← Op.unary op (e x)))) := by simp only [execOp, ho]
    split at hm
    · split at hm
      · rename_i h1; rw [h1] at hx
        exact Quiet.mk' hex hm rfl fun w _ => by simp [show e x = .bool true from hx, Op.unary]
      · rename_i h1; rw [h1] at hx
        exact Quiet.mk' hex hm rfl fun w _ => by simp [show e x = .bool false from hx, Op.unary]
      · rename_i b h1; rw [h1] at hx
        exact Quiet.mk' hex hm rfl fun w _ => by simp [show e x = .bool b from hx, Op.unary, Kd.val]
      · cases hm
    · split at hm
      · rename_i k n h1
        exact Quiet.mk' hex hm rfl fun w _ => by simp [asInt_spec h1 hx, Op.unary, Op.intArith, Kd.val]
      · cases hm
    · cases hm
  | convert s d x =>
    rw [ho] at hm
    simp only [silM, convM] at hm
    have hex : execOp e o = (do pure (.value (← convert s d (e x)))) := by simp only [execOp, ho]
    split at hm
    · rename_i d1 k k' n h1 h2 h3
      refine Quiet.mk' hex hm rfl fun w _ => ?_
      rw [asInt_spec h3 (he.ev x)]
      simp only [convert, Sem.run_bind, run_underlying' h1, run_underlying' h2, Result.andThen_ok]
      simp [Conv.intToInt, Kd.val]
    · cases hm
  | nilCheck x =>
    rw [ho] at hm
    simp only [silM, nilCheckM] at hm
    have hx := he.ev x
    split at hm
    · rename_i u h1; rw [h1] at hx
      exact ⟨_, _, hm.2, hx, fun w _ => by rw [hm.1 o e x ho hx w]; rw [show e x = u from hx]⟩
    split at hm
    · rename_i i off h1; rw [h1] at hx
      exact ⟨_, _, hm, hx, fun w _ => by simp [execOp, ho, show e x = .pointer (some ⟨κ i, off, none⟩) from hx]⟩
    · rename_i p h1; rw [h1] at hx
      unfold deref at hm
      split at hm
      · rename_i a
        exact ⟨_, _, hm, hx, fun w _ => by simp [execOp, ho, show e x = .pointer (some a) from hx]⟩
      · cases hm
    · cases hm
  | load T a =>
    rw [ho] at hm
    have hex : execOp e o = (do pure (.value (← Instr.loadAt T (e a)))) := by simp only [execOp, ho]
    obtain ⟨tv, r, h1, h2, h3⟩ := loadM_sound (hm : loadM P T (ev ρ a) β h K) (he.ev a)
    exact Quiet.mk' hex h1 h2 h3
  | fieldAddr T x f =>
    rw [ho] at hm
    have hex : execOp e o = (do pure (.value (← Instr.fieldAt T (e x) f))) := by simp only [execOp, ho]
    simp only [silM, fieldAddrM] at hm
    have hx := he.ev x
    split at hm
    · rename_i off hoff
      split at hm
      · rename_i p h1; rw [h1] at hx
        obtain ⟨a, tv, rfl, h2, h3⟩ := addrM_sound (κ := κ) hm
        exact Quiet.mk' hex h2 h3 fun w _ => by rw [show e x = .pointer (some a) from hx]; exact run_fieldAt hoff a w
      · rename_i i off' h1; rw [h1] at hx
        exact Quiet.mk' hex hm rfl fun w _ => by
          rw [show e x = .pointer (some ⟨κ i, off', none⟩) from hx, run_fieldAt hoff, add_none]
      · cases hm
    · cases hm
  | indexAddr T x i =>
    rw [ho] at hm
    have hex : execOp e o = (do pure (.value (← Instr.indexAt T (e x) (e i)))) := by simp only [execOp, ho]
    simp only [silM, indexAddrM] at hm
    have hx := he.ev x
    split at hm
    · rename_i el kk n hT hn
      have hi := asInt_spec hn (he.ev i)
      split at hm
      · rename_i k s hk h1; rw [h1] at hx
        obtain ⟨hr, hm⟩ := hm
        obtain ⟨a, tv, ha, h2, h3⟩ := addrM_sound (κ := κ) hm
        exact Quiet.mk' hex h2 h3 fun w _ => by
          simp [show e x = s.val from hx, Sl.val, hi, Instr.indexAt, asIntOf, run_underlying' hT, ha, hr, run_sizeOf hk]
      · cases hm
    · rename_i m el kk n hT hn
      have hi := asInt_spec hn (he.ev i)
      split at hm
      · rename_i k p hk h1; rw [h1] at hx
        obtain ⟨hr, hm⟩ := hm
        obtain ⟨a, tv, ha, h2, h3⟩ := addrM_sound (κ := κ) hm
        subst ha
        exact Quiet.mk' hex h2 h3 fun w _ => by
          simp [show e x = .pointer (some a) from hx, hi, Instr.indexAt, asIntOf, run_underlying' hT, Instr.sureAddr, hr, run_sizeOf hk]
      · rename_i k b off hk h1; rw [h1] at hx
        obtain ⟨hr, hm⟩ := hm
        exact Quiet.mk' hex hm ⟨hr, rfl⟩ fun w _ => by
          simp [show e x = .pointer (some ⟨κ b, off, none⟩) from hx, hi, Instr.indexAt, asIntOf, run_underlying' hT, Instr.sureAddr, hr, run_sizeOf hk, add_none]
      · cases hm
    · cases hm
  | index T x i =>
    rw [ho] at hm
    have hex : execOp e o = (do pure (.value (← Instr.index T (e x) (e i)))) := by simp only [execOp, ho]
    simp only [silM, indexM] at hm
    have hx := he.ev x
    split at hm
    · rename_i m el kk n hT hn
      have hi := asInt_spec hn (he.ev i)
      split at hm
      · rename_i k m' k' f hk h1; rw [h1] at hx
        obtain ⟨hr, hm⟩ := hm
        cases hc : (Nat.beq m' m && decide (k' = k))
        · rw [hc] at hm; exact hm.elim
        rw [hc] at hm
        simp only [cond_true] at hm
        simp only [Bool.and_eq_true, decide_eq_true_eq] at hc
        obtain ⟨hc1, rfl⟩ := hc
        have hc1 := Nat.eq_of_beq_eq_true hc1
        subst hc1
        refine Quiet.mk' hex hm rfl fun w _ => ?_
        have hlt : n.toNat < m' := by omega
        have hget : (List.ofFn f)[n.toNat]? = some (aget f n.toNat) := by
          unfold aget
          rw [dif_pos hlt, List.getElem?_ofFn, dif_pos hlt]
        obtain ⟨p', r', hp', hlen'⟩ := flatMap_at k'.cells k'.size k'.cells_len _ _ _ hget
        have e1 : e x = .agg (Kd.cells (.arr m' k') f).toArray := hx
        rw [e1, hi]
        simp only [Instr.index, asIntOf, Sem.run_bind, Sem.run_pure, Result.andThen_ok, run_underlying' hT, hr, and_self, if_true, run_sizeOf hk]
        exact run_part hk (by simp only [Kd.cells]; exact hp') hlen' w
      · cases hm
    · rename_i kk n hT hn
      have hi := asInt_spec hn (he.ev i)
      split at hm
      · rename_i str h1; rw [h1] at hx
        obtain ⟨hr, hm⟩ := hm
        have hx : e x = .string str := hx
        have hlt : n.toNat < str.size := by omega
        refine Quiet.mk' hex (hm ((str[n.toNat]).toNat : Int)) rfl fun w _ => ?_
        rw [hx, hi]
        have hg : str[n.toNat]? = some str[n.toNat] := by simp [hlt]
        simp only [Instr.index, asIntOf, Sem.run_bind, Sem.run_pure, Result.andThen_ok, run_underlying' hT, hr.1, if_true, hg]
        rfl
      · cases hm
    · cases hm
  | field T x f =>
    rw [ho] at hm
    have hex : execOp e o = (do pure (.value (← Instr.field T (e x) f))) := by simp only [execOp, ho]
    obtain ⟨tv, r, h1, h2, h3⟩ := fieldM_sound (hm : fieldM P T (ev ρ x) f K) (he.ev x)
    exact Quiet.mk' hex h1 h2 fun w _ => h3 w
  | extract t i =>
    rw [ho] at hm
    have hex : execOp e o = (do pure (.value (← Instr.extract (e t) i))) := by simp only [execOp, ho]
    simp only [silM, extractM] at hm
    have hx := he.ev t
    split at hm
    · rename_i k x h1; rw [h1] at hx
      obtain ⟨tv, r, h2, h3, h4⟩ := tupM_sound (κ := κ) k x i hm
      exact Quiet.mk' hex h2 h3 fun w _ => by
        rw [show e t = .tuple (k.comps x).toArray from hx]
        simp [Instr.extract, h4]
    · cases hm
  | slice T x lo hi mx =>
    rw [ho] at hm
    have hex : execOp e o = (do pure (.value (← Instr.sliceAt T (e x) (lo.map e) (hi.map e) (mx.map e)))) := by simp only [execOp, ho]
    obtain ⟨tv, r, h1, h2, h3⟩ := sliceM_sound hm (he.ev x) (ROpt_map he lo) (ROpt_map he hi) (ROpt_map he mx)
    exact Quiet.mk' hex h1 h2 fun w _ => h3 w
  | makeInterface T x =>
    rw [ho] at hm
    simp only [silM, mkIM] at hm
    have hex : execOp e o = (do pure (.value (← Instr.makeInterface T (e x)))) := by simp only [execOp, ho]
    split at hm
    · exact hm.elim
    · rename_i d hd hu
      split at hm
      · rename_i k hk
        split at hm
        · rename_i y hy
          have hx := tvVal_spec hy (he.ev x)
          refine Quiet.mk' hex hm rfl fun w _ => ?_
          rw [hx]
          simp only [Instr.makeInterface, Sem.run_bind, run_underlying' hu, Result.andThen_ok]
          cases d <;> first | rfl | exact absurd rfl (hd _)
        · exact hm.elim
      · exact hm.elim
    · exact hm.elim
  | makeFunc g a b =>
    rw [ho] at hm
    simp only [silM, mkFM] at hm
    have hex : execOp e o = (do pure (.value (← Instr.makeFunc g (a.map e) (b.map e)))) := by simp only [execOp, ho]
    split at hm
    · rename_i x y hx hy
      have h1 := tvArgs_spec he a.toList x hx
      have h2 := tvArgs_spec he b.toList y hy
      refine Quiet.mk' hex hm rfl fun w _ => ?_
      have e1 : a.map e = x.toArray := by rw [← Array.toList_inj]; simp [h1]
      have e2 : b.map e = y.toArray := by rw [← Array.toList_inj]; simp [h2]
      simp only [Instr.makeFunc, e1, e2, Sem.run_pure]
      rfl
    · exact hm.elim
  | lookup T x i ck =>
    rw [ho] at hm
    have hex : execOp e o = (do pure (.value (← Instr.lookup T (e x) (e i) ck))) := by simp only [execOp, ho]
    obtain ⟨tv, r, h1, h2, h3⟩ := lookM_sound (hm : lookM P T (ev ρ x) (ev ρ i) ck h K) (he.ev x) (he.ev i)
    exact Quiet.mk' hex h1 h2 fun w hw => h3 w hw.sub
  | build T parts =>
    rw [ho] at hm
    have hex : execOp e o = (do pure (.value (← Instr.build T (parts.map fun (i, x) => (i, e x))))) := by simp only [execOp, ho]
    obtain ⟨tv, r, h1, h2, h3⟩ := buildM_sound hm (pairs_map he parts.toList)
    refine Quiet.mk' hex h1 h2 fun w _ => ?_
    have := h3 w
    have e1 : (parts.toList.map fun p => (p.1, e p.2)).toArray = parts.map fun (i, x) => (i, e x) := by
      rw [← Array.toList_inj]; simp
    rw [e1] at this
    exact this
  | call c =>
    rw [ho] at hm
    simp only [silM] at hm
    split at hm
    · rename_i b hb
      obtain ⟨tv, r, h1, h2, h3⟩ := biM_sound he hm o.type (c.args.map fun | .const _ => true | _ => false)
      refine ⟨tv, r, h1, h2, fun w _ => ?_⟩
      have e1 : execOp e o = builtin b c.argTypes o.type (c.args.map fun | .const _ => true | _ => false) (c.args.map e) := by
        simp only [execOp, ho, resolve, hb, pure_bind, invoke]; rfl
      rw [e1]
      have e2 : (c.args.toList.map e).toArray = c.args.map e := by rw [← Array.toList_inj]; simp
      rw [← e2]
      exact h3 w
    · cases hm
  | _ => rw [ho] at hm; exact hm.elim

end Go.Mx
