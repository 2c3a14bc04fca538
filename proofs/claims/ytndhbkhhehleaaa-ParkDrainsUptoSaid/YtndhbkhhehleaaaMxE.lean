/-
  Operations that leave the world as it is: all together.
  An operation that leaves the world as it is: one law for all.
-/
import Derived.Test.YtndhbkhhehleaaaMxMa
set_option linter.unusedVariables false
set_option linter.unusedSimpArgs false
namespace Go.Mx

def tvEnt (k : Kd) : TV → Option (List Ent)
  | .v k' x => if h : k' = k then (if k.plain then some (k.dis (h ▸ x)) else none) else none
  | .kb b => if h : Kd.bool = k then some (k.dis (h ▸ b)) else none
  | _ => none
theorem tvEnt_spec {κ : Nat → Nat} {k : Kd} {t : TV} {l : List Ent} (h : tvEnt k t = some l) {u : Value} (r : Rl κ t u) :
    u.cells = (entCells l).toArray ∧ (entCells l).length = k.size := by
  unfold tvEnt at h
  split at h
  · split at h
    · rename_i hk
      subst hk
      split at h
      · rename_i hp
        cases h
        obtain rfl := r
        rw [Kd.dis_cells, Kd.val_cells hp]
        exact ⟨rfl, Kd.cells_len _ _⟩
      · cases h
    · cases h
  · split at h
    · rename_i hk
      subst hk
      cases h
      obtain rfl := r
      exact ⟨rfl, rfl⟩
    · cases h
  · cases h

def pickM (c a b : TV) (K : TV → Prop) : Prop :=
  match c with
  | .kb true => K a
  | .kb false => K b
  | .v .bool x => match asBool a, asBool b with
    | some y, some z => K (.v .bool (bif x then y else z))
    | _, _ => False
  | _ => False

def unM (op : UnOp) (x : TV) (K : TV → Prop) : Prop :=
  match op with
  | .not => match x with
    | .kb true => K (.kb false)
    | .kb false => K (.kb true)
    | .v .bool b => K (.v .bool (!b))
    | _ => False
  | .neg => match asInt x with
    | some (k, n) => K (.v (.int k) (k.wrap (0 - n)))
    | none => False
  | _ => False

def nilCheckM (x : TV) (K : TV → Prop) : Prop :=
  match x with
  | .box i off => K (.box i off)
  | .v .ptr p => deref p fun a => K (.v .ptr (some a))
  | _ => False

def convM (P : Program) (src dst : TypeId) (x : TV) (K : TV → Prop) : Prop :=
  match P.underlying src, P.underlying dst, asInt x with
  | some _, some (.int k), some (_, n) => K (.v (.int k) (k.wrap n))
  | _, _, _ => False

def lenM (P : Program) (T : TypeId) (x : TV) (K : TV → Prop) : Prop :=
  match P.underlying T with
  | some (.slice _) => match x with
    | .v .sl s => K (.v (.int .i64) s.len)
    | _ => False
  | some .string => match x with
    | .v .str s => K (.v (.int .i64) s.size)
    | _ => False
  | some (.array n _) => K (.v (.int .i64) n)
  | _ => False
def capM (P : Program) (T : TypeId) (x : TV) (K : TV → Prop) : Prop :=
  match P.underlying T, x with
  | some (.slice _), .v .sl s => K (.v (.int .i64) s.cap)
  | _, _ => False

def indexM (P : Program) (T : TypeId) (x i : TV) (K : TV → Prop) : Prop :=
  match P.underlying T, asInt i with
  | some (.array m e), some (_, n) => match kdOf P D e, x with
    | some k, .v (.arr m' k') f => (0 ≤ n ∧ n < m) ∧ (bif Nat.beq m' m && decide (k' = k) then K (.v k' (aget f n.toNat)) else False)
    | _, _ => False
  | some .string, some (_, n) => match x with
    | .v .str s => (0 ≤ n ∧ n < (s.size : Int)) ∧ ∀ b : Int, K (.v (.int .u8) b)
    | _ => False
  | _, _ => False

def mmM (mx : Bool) (x y : TV) (K : TV → Prop) : Prop :=
  match asInt x, asInt y with
  | some (k, a), some (k', b) => bif decide (k' = k) then K (.v (.int k) (bif mx then (if a < b then b else a) else (if b < a then b else a))) else False
  | _, _ => False

def fillE (P : Program) (fs : Array Field) : List Ent → List (Nat × TV) → Option (List Ent)
  | l, [] => some l
  | l, (i, t) :: r => match fs[i]? with
    | some fd => match kdOf P D fd.type with
      | some kf => match tvEnt kf t with
        | some es => match putBox l fd.offset es with
          | some m => fillE P fs m r
          | none => none
        | none => none
      | none => none
    | none => none
def buildM (P : Program) (T : TypeId) (parts : List (Nat × TV)) (K : TV → Prop) : Prop :=
  match kdOf P D T, P.underlying T with
  | some k, some (.struct fs) => match fillE P fs (k.dis k.zero) parts with
    | some l => match k.asm l with
      | some (x, []) => bif k.isAgg then K (.v k x) else False
      | _ => False
    | none => False
  | some k, some (.array m e) => match parts with
    | [] => bif k.isAgg && (kdOf P D e).isSome then K (.v k k.zero) else False
    | _ => False
  | _, _ => False

theorem foldl_set : ∀ (new : List Value) (cs : List Value) (off j : Nat), off + j + new.length ≤ cs.length →
    ((new.zipIdx j).foldl (fun (a : Array Value) (c : Value × Nat) => a.setIfInBounds (off + c.2) c.1) cs.toArray) = (splice cs (off + j) new).toArray
  | [], cs, off, j, h => by simp [splice]
  | v :: new, cs, off, j, h => by
    simp only [List.zipIdx_cons, List.foldl_cons]
    have : cs.toArray.setIfInBounds (off + j) v = (cs.set (off + j) v).toArray := by simp
    rw [this, foldl_set new _ off (j + 1) (by simp at h ⊢; omega)]
    congr 1
    simp only [splice, List.length_cons] at h ⊢
    have e : off + (j + 1) = off + j + 1 := by omega
    rw [e]
    have hlt : off + j < cs.length := by omega
    have es : cs.set (off + j) v = (cs.take (off + j) ++ [v]) ++ cs.drop (off + j + 1) := by
      rw [List.set_eq_take_append_cons_drop, if_pos hlt]; simp
    have el : (cs.take (off + j) ++ [v]).length = off + j + 1 := by simp; omega
    rw [es, List.take_left' el, ← List.drop_drop, List.drop_left' el, List.drop_drop]
    rw [show off + j + 1 + new.length = off + j + (new.length + 1) from by omega]
    simp

inductive Pairs {α β : Type} (R : α → β → Prop) : List α → List β → Prop
  | nil : Pairs R [] []
  | cons {a b l m} : R a b → Pairs R l m → Pairs R (a :: l) (b :: m)

theorem fillE_sound {P : Program} {κ : Nat → Nat} {fs : Array Field} {places : Array (Nat × Nat)}
    (hpl : ∀ (i : Nat) (fd : Field) (k : Kd), fs[i]? = some fd → kdOf P D fd.type = some k → places[i]? = some (fd.offset, k.size)) :
    ∀ (parts : List (Nat × TV)) (vs : List (Nat × Value)) (l m : List Ent), fillE P fs l parts = some m →
      Pairs (fun (p : Nat × TV) (q : Nat × Value) => p.1 = q.1 ∧ Rl κ p.2 q.2) parts vs →
      Instr.fill (places[·]?) (entCells l).toArray vs = some (entCells m).toArray := by
  intro parts
  induction parts with
  | nil => intro vs l m h hr; cases hr; simp [fillE] at h; subst h; rfl
  | cons p parts ih =>
    intro vs l m h hr
    cases hr with
    | cons h1 h2 =>
      rename_i q qs
      obtain ⟨i, t⟩ := p
      obtain ⟨i', u⟩ := q
      obtain ⟨rfl, hu⟩ := h1
      dsimp only at hu
      simp only [fillE] at h
      split at h
      · rename_i fd hfd
        split at h
        · rename_i kf hkf
          split at h
          · rename_i es hes
            split at h
            · rename_i m1 hm1
              obtain ⟨hc, hlen⟩ := tvEnt_spec hes hu
              obtain ⟨hput, hsz⟩ := putBox_spec hm1
              simp only [Instr.fill, hpl i fd kf hfd hkf]
              have e1 : u.cells.size = kf.size := by rw [hc]; simp [hlen]
              have e2 : fd.offset + u.cells.size ≤ (entCells l).toArray.size := by
                rw [e1, ← hlen]; simp only [List.size_toArray, entCells_len]; omega
              rw [if_neg (by simp only [Bool.or_eq_true, decide_eq_true_eq]; omega)]
              have e3 : u.cells.zipIdx.foldl (fun (cs : Array Value) (x : Value × Nat) => cs.setIfInBounds (fd.offset + x.2) x.1) (entCells l).toArray = (entCells m1).toArray := by
                rw [hc, ← Array.foldl_toList, Array.toList_zipIdx, hput]
                have := foldl_set (entCells es) (entCells l) fd.offset 0 (by rw [e1] at e2; simp at e2; omega)
                simpa using this
              have := ih qs m1 m h h2
              rw [← this]
              congr 1
            · cases h
          · cases h
        · cases h
      · cases h

def place1 (f : Field) : Sem (Nat × Nat) := do pure (f.offset, ← sizeOf f.type)
theorem mapM_places {P : Program} {fs : Array Field} {w : World} (hk : ∀ fd ∈ fs.toList, ∃ n, (sizeOf fd.type).run P w = .ok n w) :
    ∃ pl : Array (Nat × Nat), (fs.mapM place1).run P w = .ok pl w ∧
      ∀ (i : Nat) (fd : Field) (n : Nat), fs[i]? = some fd → (sizeOf fd.type).run P w = .ok n w → pl[i]? = some (fd.offset, n) := by
  have key : ∀ (l : List Field), (∀ fd ∈ l, ∃ n, (sizeOf fd.type).run P w = .ok n w) →
      ∃ pl : List (Nat × Nat), (l.mapM place1).run P w = .ok pl w ∧
        ∀ (i : Nat) (fd : Field) (n : Nat), l[i]? = some fd → (sizeOf fd.type).run P w = .ok n w → pl[i]? = some (fd.offset, n) := by
    intro l
    induction l with
    | nil => intro _; exact ⟨[], rfl, fun i fd n h => by simp at h⟩
    | cons f l ih =>
      intro h
      obtain ⟨n, hn⟩ := h f (by simp)
      obtain ⟨pl, h1, h2⟩ := ih (fun fd hfd => h fd (by simp [hfd]))
      refine ⟨(f.offset, n) :: pl, ?_, ?_⟩
      · simp only [List.mapM_cons, place1, Sem.run_bind, hn, Result.andThen_ok, Sem.run_pure, h1]
      · intro i fd m hi hm
        cases i with
        | zero => simp at hi; subst hi; rw [hn] at hm; cases hm; rfl
        | succ i => exact h2 i fd m (by simpa using hi) hm
  obtain ⟨pl, h1, h2⟩ := key fs.toList hk
  refine ⟨pl.toArray, ?_, fun i fd n h => by simpa using h2 i fd n (by simpa using h)⟩
  rw [Array.mapM_eq_mapM_toList]
  simp [h1]

theorem kdOf_fields {P : Program} {n : Nat} {T : TypeId} {k : Kd} {fs : Array Field} (hk : kdOf P (n + 1) T = some k) (hT : P.underlying T = some (.struct fs)) :
    ∀ fd ∈ fs.toList, ∃ k', kdOf P n fd.type = some k' := by
  simp only [kdOf, hT] at hk
  split at hk
  · rename_i i d hi hd
    cases hd
    have key : ∀ (l : List Field) (q : Kd), l.foldr (fun f acc => match kdOf P n f.type, acc with | some a, some b => some (Kd.pair a b) | _, _ => none) (some .nil) = some q →
        ∀ fd ∈ l, ∃ k', kdOf P n fd.type = some k' := by
      intro l
      induction l with
      | nil => intro q _ fd h; cases h
      | cons f l ih =>
        intro q h fd hfd
        simp only [List.foldr_cons] at h
        split at h
        · rename_i a b ha hb
          cases hfd with
          | head => exact ⟨a, ha⟩
          | tail _ hm => exact ih b hb fd hm
        · cases h
    dsimp only at hk
    split at hk
    · rename_i q hq
      exact key _ _ hq
    · cases hk
  · cases hk

theorem buildM_sound {P : Program} {κ : Nat → Nat} {T : TypeId} {parts : List (Nat × TV)} {K : TV → Prop} (hm : buildM P T parts K)
    {vs : List (Nat × Value)} (hv : Pairs (fun (p : Nat × TV) (q : Nat × Value) => p.1 = q.1 ∧ Rl κ p.2 q.2) parts vs) :
    ∃ tv r, K tv ∧ Rl κ tv r ∧ ∀ w, (Instr.build T vs.toArray).run P w = .ok r w := by
  unfold buildM at hm
  split at hm
  · rename_i k fs hk hT
    split at hm
    · rename_i l hl
      split at hm
      · rename_i x hx
        cases ha : k.isAgg
        · rw [ha] at hm; exact hm.elim
        rw [ha] at hm
        simp only [cond_true] at hm
        refine ⟨_, _, hm, rfl, fun w => ?_⟩
        have hf := kdOf_fields hk hT
        obtain ⟨pl, h1, h2⟩ := mapM_places (P := P) (fs := fs) (w := w) (fun fd hfd => by obtain ⟨k', hk'⟩ := hf fd hfd; exact ⟨_, run_sizeOf hk' w⟩)
        have h3 := fillE_sound (κ := κ) (places := pl) (fun i fd k' hi hk' => h2 i fd _ hi (run_sizeOf hk' w)) parts vs _ _ hl hv
        have h4 : (fs.mapM fun f => (do pure (f.offset, ← sizeOf f.type) : Sem (Nat × Nat))).run P w = .ok pl w := h1
        have h5 := Kd.asm_spec _ _ _ _ hx
        rw [Kd.dis_cells] at h3
        simp only [Instr.build, Sem.run_bind, run_zeroValue hk, Result.andThen_ok, run_underlying' hT, h4, Kd.val_agg ha, Value.cells]
        have h6 : Instr.fill (fun i => pl[i]?) (k.cells k.zero).toArray vs = some (entCells l).toArray := h3
        simp only [h6, Sem.run_pure, h5, entCells, List.append_nil]
      · cases hm
    · cases hm
  · rename_i k m e hk hT
    split at hm
    · cases hv
      cases ha : (k.isAgg && (kdOf P D e).isSome)
      · rw [ha] at hm; exact hm.elim
      rw [ha] at hm
      simp only [cond_true] at hm
      simp only [Bool.and_eq_true] at ha
      obtain ⟨ke, hke⟩ := Option.isSome_iff_exists.1 ha.2
      refine ⟨_, _, hm, rfl, fun w => ?_⟩
      simp only [Instr.build, Sem.run_bind, run_zeroValue hk, Result.andThen_ok, run_underlying' hT, run_sizeOf hke, Kd.val_agg ha.1, Value.cells, Instr.fill, Sem.run_pure]
    · exact hm.elim
  · cases hm

end Go.Mx

namespace Go.Mx

def biM (P : Program) (b : Builtin) (argTypes : Array TypeId) (args : List TV) (K : TV → Prop) : Prop :=
  match b with
  | .len => match argTypes[0]?, args with
    | some T, [x] => lenM P T x K
    | _, _ => False
  | .cap => match argTypes[0]?, args with
    | some T, [x] => capM P T x K
    | _, _ => False
  | .max => match args with
    | [x, y] => mmM true x y K
    | _ => False
  | .min => match args with
    | [x, y] => mmM false x y K
    | _ => False
  | _ => False

def isAggT (P : Program) (T : TypeId) : Bool :=
  match P.underlying T with
  | some (.struct _) | some (.array _ _) => true
  | _ => false
def aggM (P : Program) (op : BinOp) (T : TypeId) (x y : TV) (K : TV → Prop) : Prop :=
  match isEq op, kdOf P D T with
  | some neg, some k => match tvVal k x, tvVal k y with
    | some a, some b => bif eqOk P D T k && !(P.eqGuardType P.depth T) && k.isAgg then K (.v .bool (bif neg then !(eqK k a b) else eqK k a b)) else False
    | _, _ => False
  | _, _ => False

def tvArg : TV → Option Value
  | .v k x => some (k.val x)
  | .kb b => some (.bool b)
  | _ => none
def tvArgs : List TV → Option (List Value)
  | [] => some []
  | x :: r => match tvArg x, tvArgs r with
    | some u, some l => some (u :: l)
    | _, _ => none
theorem tvArg_spec {κ : Nat → Nat} {x : TV} {u v : Value} (h : tvArg x = some u) (r : Rl κ x v) : v = u := by
  unfold tvArg at h
  split at h
  · cases h; exact r
  · cases h; exact r
  · cases h
theorem tvArgs_spec {κ : Nat → Nat} {ρ : Slots} {e : Operand → Value} (he : EvOk κ ρ e) : ∀ (args : List Operand) (l : List Value), tvArgs (args.map (ev ρ)) = some l → args.map e = l
  | [], l, h => by simp [tvArgs] at h; simp [h]
  | x :: args, l, h => by
    simp only [List.map_cons, tvArgs] at h
    split at h
    · rename_i u m hu hm
      cases h
      rw [List.map_cons, tvArgs_spec he args m hm, tvArg_spec hu (he.ev x)]
    · cases h

def isNilC : Operand → Bool
  | .const .nilIface => true
  | _ => false
def isIfaceT (P : Program) (T : TypeId) : Bool :=
  match P.underlying T with
  | some (.interface _) => true
  | _ => false
def NilT (P : Program) (v : Value) : Prop := ∀ (o : Oper) (e : Operand → Value) (x : Operand), o.op = .nilCheck x → e x = v → ∀ w, (execOp e o).run P w = .ok (.value v) w
def isNilI : Value → Bool
  | .nilIface => true
  | _ => false
def isI : Value → Prop
  | .nilIface | .iface _ _ => True
  | _ => False
def nilIM (op : BinOp) (x : TV) (K : TV → Prop) : Prop :=
  match isEq op with
  | some neg => match x with
    | .v .iface v => isI v ∧ K (.v .bool (bif neg then !(isNilI v) else isNilI v))
    | _ => False
  | none => False
def mkIM (P : Program) (T : TypeId) (x : TV) (K : TV → Prop) : Prop :=
  match P.underlying T with
  | some (.interface _) => False
  | some _ => match kdOf P D T with
    | some k => match tvVal k x with
      | some y => K (.v .iface (.iface T (k.val y)))
      | none => False
    | none => False
  | none => False
def mkFM (f : Fn) (first captured : List TV) (K : TV → Prop) : Prop :=
  match tvArgs first, tvArgs captured with
  | some a, some b => K (.v .fn (.func f a.toArray b.toArray))
  | _, _ => False

def silM (P : Program) (o : Op) (ρ : Slots) (β : Boxes) (h : Heap) (K : TV → Prop) : Prop :=
  match o with
  | .move x => K (ev ρ x)
  | .assign x => K (ev ρ x)
  | .pick c a b => pickM (ev ρ c) (ev ρ a) (ev ρ b) K
  | .makeInterface T x => mkIM P T (ev ρ x) K
  | .makeFunc g a b => mkFM g (a.toList.map (ev ρ)) (b.toList.map (ev ρ)) K
  | .binOp op T x y _ => bif isNilC y && isIfaceT P T then nilIM op (ev ρ x) K else bif isAggT P T then aggM P op T (ev ρ x) (ev ρ y) K else binM P op T (ev ρ x) (ev ρ y) K
  | .unOp op _ x => unM op (ev ρ x) K
  | .convert s d x => convM P s d (ev ρ x) K
  | .nilCheck x => match ev ρ x with
    | .v .fn u => NilT P u ∧ K (.v .fn u)
    | t => nilCheckM t K
  | .load T a => loadM P T (ev ρ a) β h K
  | .fieldAddr T x f => fieldAddrM P T (ev ρ x) f K
  | .indexAddr T x i => indexAddrM P T (ev ρ x) (ev ρ i) K
  | .index T x i => indexM P T (ev ρ x) (ev ρ i) K
  | .field T x f => fieldM P T (ev ρ x) f K
  | .extract t i => extractM (ev ρ t) i K
  | .slice T x lo hi mx => sliceM P T (ev ρ x) (lo.map (ev ρ)) (hi.map (ev ρ)) (mx.map (ev ρ)) K
  | .build T parts => buildM P T (parts.toList.map fun p => (p.1, ev ρ p.2)) K
  | .lookup T x i ck => lookM P T (ev ρ x) (ev ρ i) ck h K
  | .call c => match c.callee with
    | .builtin b => biM P b c.argTypes (c.args.toList.map (ev ρ)) K
    | _ => False
  | _ => False

def isSil : Op → Bool
  | .move _ | .assign _ | .pick .. | .binOp .. | .unOp .. | .convert .. | .nilCheck _ | .load .. | .fieldAddr .. | .indexAddr .. | .index .. | .field .. | .extract .. | .slice .. | .build .. | .makeInterface .. | .makeFunc .. | .lookup .. => true
  | .call c => match c.callee with
    | .builtin .len | .builtin .cap | .builtin .max | .builtin .min => true
    | _ => false
  | _ => false

theorem ROpt_map {κ : Nat → Nat} {ρ : Slots} {e : Operand → Value} (he : EvOk κ ρ e) (x : Option Operand) : ROpt κ (x.map (ev ρ)) (x.map e) := by
  cases x with
  | none => trivial
  | some x => exact he.ev x

theorem addrM_sound {κ : Nat → Nat} {p : Option Addr} {off : Nat} {K : TV → Prop} (h : addrM p off K) : ∃ a tv, p = some a ∧ K tv ∧ Rl κ tv (.pointer (some (a.add off))) := by
  unfold addrM deref at h
  split at h
  · rename_i a; exact ⟨a, _, rfl, h, rfl⟩
  · cases h

theorem pairs_map {κ : Nat → Nat} {ρ : Slots} {e : Operand → Value} (he : EvOk κ ρ e) (l : List (Nat × Operand)) :
    Pairs (fun (p : Nat × TV) (q : Nat × Value) => p.1 = q.1 ∧ Rl κ p.2 q.2) (l.map fun p => (p.1, ev ρ p.2)) (l.map fun p => (p.1, e p.2)) := by
  induction l with
  | nil => exact .nil
  | cons p l ih => exact .cons ⟨rfl, he.ev p.2⟩ ih

theorem biM_sound {P : Program} {κ : Nat → Nat} {ρ : Slots} {e : Operand → Value} (he : EvOk κ ρ e) {b : Builtin} {argTypes : Array TypeId} {args : List Operand} {K : TV → Prop}
    (hm : biM P b argTypes (args.map (ev ρ)) K) (type : TypeId) (consts : Array Bool) :
    ∃ tv r, K tv ∧ Rl κ tv r ∧ ∀ w, (builtin b argTypes type consts (args.map e).toArray).run P w = .ok (.value r) w := by
  unfold biM at hm
  split at hm
  · split at hm
    · rename_i T x hT hargs
      cases args with
      | nil => simp at hargs
      | cons X args =>
        cases args with
        | cons _ _ => simp at hargs
        | nil =>
          simp at hargs
          subst hargs
          have hX := he.ev X
          unfold lenM at hm
          split at hm
          · rename_i hu
            split at hm
            · rename_i s hs
              rw [hs] at hX
              exact ⟨_, _, hm, rfl, fun w => by simp [builtin, Builtin.len_, hT, run_underlying' hu, show e X = s.val from hX, Sl.val, goInt, Kd.val]⟩
            · cases hm
          · rename_i hu
            split at hm
            · rename_i s hs
              rw [hs] at hX
              exact ⟨_, _, hm, rfl, fun w => by simp [builtin, Builtin.len_, hT, run_underlying' hu, show e X = .string s from hX, goInt, Kd.val]⟩
            · cases hm
          · rename_i hu
            exact ⟨_, _, hm, rfl, fun w => by simp [builtin, Builtin.len_, hT, run_underlying' hu, goInt, Kd.val]⟩
          · cases hm
    · cases hm
  · split at hm
    · rename_i T x hT hargs
      cases args with
      | nil => simp at hargs
      | cons X args =>
        cases args with
        | cons _ _ => simp at hargs
        | nil =>
          simp at hargs
          subst hargs
          have hX := he.ev X
          unfold capM at hm
          split at hm
          · rename_i hu s hs hx
            rw [hx] at hX
            exact ⟨_, _, hm, rfl, fun w => by simp [builtin, Builtin.cap_, hT, run_underlying' hs, show e X = s.val from hX, Sl.val, goInt, Kd.val]⟩
          · cases hm
    · cases hm
  · split at hm
    · rename_i x y hargs
      cases args with
      | nil => simp at hargs
      | cons X args =>
        cases args with
        | nil => simp at hargs
        | cons Y args =>
          cases args with
          | cons _ _ => simp at hargs
          | nil =>
            simp at hargs
            obtain ⟨rfl, rfl⟩ := hargs
            unfold mmM at hm
            split at hm
            · rename_i k a k' b ha hb
              cases hc : decide (k' = k)
              · rw [hc] at hm; exact hm.elim
              rw [hc] at hm
              have hc := of_decide_eq_true hc
              subst hc
              refine ⟨_, _, hm, rfl, fun w => ?_⟩
              have hX := asInt_spec ha (he.ev X)
              have hY := asInt_spec hb (he.ev Y)
              simp [builtin, Builtin.max_, Builtin.max2, hX, hY, Kd.val]
            · cases hm
    · cases hm
  · split at hm
    · rename_i x y hargs
      cases args with
      | nil => simp at hargs
      | cons X args =>
        cases args with
        | nil => simp at hargs
        | cons Y args =>
          cases args with
          | cons _ _ => simp at hargs
          | nil =>
            simp at hargs
            obtain ⟨rfl, rfl⟩ := hargs
            unfold mmM at hm
            split at hm
            · rename_i k a k' b ha hb
              cases hc : decide (k' = k)
              · rw [hc] at hm; exact hm.elim
              rw [hc] at hm
              have hc := of_decide_eq_true hc
              subst hc
              refine ⟨_, _, hm, rfl, fun w => ?_⟩
              have hX := asInt_spec ha (he.ev X)
              have hY := asInt_spec hb (he.ev Y)
              simp [builtin, Builtin.min_, Builtin.min2, hX, hY, Kd.val]
            · cases hm
    · cases hm
  · cases hm

theorem equalIn_nilI {P : Program} (d : Nat) {T : TypeId} {ms : Array (String × TypeId)} (hu : P.underlying T = some (.interface ms)) {v : Value} (hi : isI v) (w : World) : (Op.equalIn (d + 1) T v .nilIface).run P w = .ok (isNilI v) w := by
  cases v <;> first | exact hi.elim | (simp [Op.equalIn, run_underlying' hu, isNilI])
theorem nilI_sound {P : Program} {κ : Nat → Nat} {ρ : Slots} {β : Boxes} {h : Heap} {e : Operand → Value} {o : Oper} {op : BinOp} {T T' : TypeId} {x y : Operand} {K : TV → Prop} (ho : o.op = .binOp op T x y T') (he : EvOk κ ρ e)
    (hy : isNilC y = true) (hT : isIfaceT P T = true) (hm : nilIM op (ev ρ x) K) : Quiet P κ β h e o K := by
  have hex : execOp e o = (do pure (.value (← (do eqGuard op T x y (e x) (e y); binOp op T (e x) (e y))))) := by simp only [execOp, ho]
  unfold isNilC at hy
  split at hy
  · rw [he.const] at hex
    unfold isIfaceT at hT
    split at hT
    · rename_i ms hu
      have hx := he.ev x
      unfold nilIM at hm
      split at hm
      · rename_i neg hn
        split at hm
        · rename_i v hv
          rw [hv] at hx
          have hx : e x = v := hx
          obtain ⟨hi, hm⟩ := hm
          refine Quiet.mk' hex hm rfl fun w _ => ?_
          have hg : (eqGuard op T x (.const .nilIface) (e x) .nilIface).run P w = .ok () w := by
            rw [hx]
            unfold isEq at hn
            unfold eqGuard
            split at hn
            · cases v <;> first | exact hi.elim | rfl | (simp; done)
            · cases v <;> first | exact hi.elim | rfl | (simp; done)
            · cases hn
          simp only [Sem.run_bind, hg, Result.andThen_ok]
          rw [hx]
          have hq : (Op.equal T v .nilIface).run P w = .ok (isNilI v) w := by
            exact equalIn_nilI 9999 hu hi w
          unfold isEq at hn
          split at hn
          · cases hn
            cases v <;> first | exact hi.elim | (simp only [binOp, Sem.run_bind, hq, Result.andThen_ok, Sem.run_pure]; rfl)
          · cases hn
            cases v <;> first | exact hi.elim | (simp only [binOp, Sem.run_bind, hq, Result.andThen_ok, Sem.run_pure]; rfl)
          · cases hn
        · exact hm.elim
      · exact hm.elim
    · cases hT
  · cases hy

theorem silM_sound {P : Program} {κ : Nat → Nat} {ρ : Slots} {β : Boxes} {h : Heap} {e : Operand → Value} {o : Oper} {K : TV → Prop}
    (hm : silM P o.op ρ β h K) (he : EvOk κ ρ e) : Quiet P κ β h e o K := by
  cases ho : o.op with
  | move x => rw [ho] at hm; exact ⟨_, _, hm, he.ev x, fun w _ => by simp [execOp, ho]⟩
  | assign x => rw [ho] at hm; exact ⟨_, _, hm, he.ev x, fun w _ => by simp [execOp, ho]⟩
  | pick c a b =>
    rw [ho] at hm
    simp only [silM, pickM] at hm
    have hc := he.ev c
    split at hm
    · rename_i h1; rw [h1] at hc
      exact ⟨_, _, hm, he.ev a, fun w _ => by simp [execOp, ho, show e c = .bool true from hc, Go.asBool]⟩
    · rename_i h1; rw [h1] at hc
      exact ⟨_, _, hm, he.ev b, fun w _ => by simp [execOp, ho, show e c = .bool false from hc, Go.asBool]⟩
    · rename_i x h1; rw [h1] at hc
      split at hm
      · rename_i y z hy hz
        refine ⟨_, _, hm, rfl, fun w _ => ?_⟩
        have ha := asBool_spec hy (he.ev a)
        have hb := asBool_spec hz (he.ev b)
        simp only [execOp, ho, show e c = .bool x from hc, Go.asBool, ha, hb, Kd.val]
        cases x <;> rfl
      · cases hm
    · cases hm
  | binOp op T x y T' =>
    rw [ho] at hm
    simp only [silM] at hm
    cases hni : (isNilC y && isIfaceT P T)
    case' true =>
      rw [hni] at hm
      simp only [cond_true] at hm
      simp only [Bool.and_eq_true] at hni
      exact nilI_sound ho he hni.1 hni.2 hm
    rw [hni] at hm
    simp only [cond_false] at hm
    cases hag : isAggT P T
    · rw [hag] at hm; exact binM_sound ho hm (he.ev x) (he.ev y)
    · rw [hag] at hm
      simp only [cond_true] at hm
      unfold aggM at hm
      split at hm
      · rename_i neg k hneg hk
        split at hm
        · rename_i a b ha hb
          cases hc : (eqOk P D T k && !(P.eqGuardType P.depth T) && k.isAgg)
          · rw [hc] at hm; exact hm.elim
          · rw [hc] at hm
            simp only [cond_true] at hm
            simp only [Bool.and_eq_true, Bool.not_eq_true'] at hc
            obtain ⟨⟨c1, c2⟩, c3⟩ := hc
            have ex := tvVal_spec ha (he.ev x)
            have ey := tvVal_spec hb (he.ev y)
            rw [Kd.val_agg c3] at ex ey
            have hex : execOp e o = (do pure (.value (← (do eqGuard op T x y (e x) (e y); binOp op T (e x) (e y))))) := by simp only [execOp, ho]
            refine Quiet.mk' hex hm rfl fun w _ => ?_
            have h1 := eqOk_sound D T k c1 10000 (by decide) a b w
            rw [Kd.val_agg c3, Kd.val_agg c3] at h1
            simp only [ex, ey, Sem.run_bind, run_eqGuard_agg w op T x y _ _ c2, Result.andThen_ok]
            unfold isEq at hneg
            split at hneg
            · cases hneg
              rw [run_eql_struct, h1]; rfl
            · cases hneg
              rw [run_neq_struct, h1]; rfl
            · cases hneg
        · exact hm.elim
      · exact hm.elim
  | unOp op T x =>
    rw [ho] at hm
    simp only [silM, unM] at hm
    have hx := he.ev x
    have hex : execOp e o = (do pure (.value (← Op.unary op (e x)))) := by simp only [execOp, ho]
    split at hm
    · split at hm
      · rename_i h1; rw [h1] at hx
        exact Quiet.mk' hex hm rfl fun w _ => by simp [show e x = .bool true from hx, Op.unary]
      · rename_i h1; rw [h1] at hx
        exact Quiet.mk' hex hm rfl fun w _ => by simp [show e x = .bool false from hx, Op.unary]
      · rename_i b h1; rw [h1] at hx
        exact Quiet.mk' hex hm rfl fun w _ => by simp [show e x = .bool b from hx, Op.unary, Kd.val]
      · cases hm
    · split at hm
      · rename_i k n h1
        exact Quiet.mk' hex hm rfl fun w _ => by simp [asInt_spec h1 hx, Op.unary, Op.intArith, Kd.val]
      · cases hm
    · cases hm
  | convert s d x =>
    rw [ho] at hm
    simp only [silM, convM] at hm
    have hex : execOp e o = (do pure (.value (← convert s d (e x)))) := by simp only [execOp, ho]
    split at hm
    · rename_i d1 k k' n h1 h2 h3
      refine Quiet.mk' hex hm rfl fun w _ => ?_
      rw [asInt_spec h3 (he.ev x)]
      simp only [convert, Sem.run_bind, run_underlying' h1, run_underlying' h2, Result.andThen_ok]
      simp [Conv.intToInt, Kd.val]
    · cases hm
  | nilCheck x =>
    rw [ho] at hm
    simp only [silM, nilCheckM] at hm
    have hx := he.ev x
    split at hm
    · rename_i u h1; rw [h1] at hx
      exact ⟨_, _, hm.2, hx, fun w _ => by rw [hm.1 o e x ho hx w]; rw [show e x = u from hx]⟩
    split at hm
    · rename_i i off h1; rw [h1] at hx
      exact ⟨_, _, hm, hx, fun w _ => by simp [execOp, ho, show e x = .pointer (some ⟨κ i, off, none⟩) from hx]⟩
    · rename_i p h1; rw [h1] at hx
      unfold deref at hm
      split at hm
      · rename_i a
        exact ⟨_, _, hm, hx, fun w _ => by simp [execOp, ho, show e x = .pointer (some a) from hx]⟩
      · cases hm
    · cases hm
  | load T a =>
    rw [ho] at hm
    have hex : execOp e o = (do pure (.value (← Instr.loadAt T (e a)))) := by simp only [execOp, ho]
    obtain ⟨tv, r, h1, h2, h3⟩ := loadM_sound (hm : loadM P T (ev ρ a) β h K) (he.ev a)
    exact Quiet.mk' hex h1 h2 h3
  | fieldAddr T x f =>
    rw [ho] at hm
    have hex : execOp e o = (do pure (.value (← Instr.fieldAt T (e x) f))) := by simp only [execOp, ho]
    simp only [silM, fieldAddrM] at hm
    have hx := he.ev x
    split at hm
    · rename_i off hoff
      split at hm
      · rename_i p h1; rw [h1] at hx
        obtain ⟨a, tv, rfl, h2, h3⟩ := addrM_sound (κ := κ) hm
        exact Quiet.mk' hex h2 h3 fun w _ => by rw [show e x = .pointer (some a) from hx]; exact run_fieldAt hoff a w
      · rename_i i off' h1; rw [h1] at hx
        exact Quiet.mk' hex hm rfl fun w _ => by
          rw [show e x = .pointer (some ⟨κ i, off', none⟩) from hx, run_fieldAt hoff, add_none]
      · cases hm
    · cases hm
  | indexAddr T x i =>
    rw [ho] at hm
    have hex : execOp e o = (do pure (.value (← Instr.indexAt T (e x) (e i)))) := by simp only [execOp, ho]
    simp only [silM, indexAddrM] at hm
    have hx := he.ev x
    split at hm
    · rename_i el kk n hT hn
      have hi := asInt_spec hn (he.ev i)
      split at hm
      · rename_i k s hk h1; rw [h1] at hx
        obtain ⟨hr, hm⟩ := hm
        obtain ⟨a, tv, ha, h2, h3⟩ := addrM_sound (κ := κ) hm
        exact Quiet.mk' hex h2 h3 fun w _ => by
          simp [show e x = s.val from hx, Sl.val, hi, Instr.indexAt, asIntOf, run_underlying' hT, ha, hr, run_sizeOf hk]
      · cases hm
    · rename_i m el kk n hT hn
      have hi := asInt_spec hn (he.ev i)
      split at hm
      · rename_i k p hk h1; rw [h1] at hx
        obtain ⟨hr, hm⟩ := hm
        obtain ⟨a, tv, ha, h2, h3⟩ := addrM_sound (κ := κ) hm
        subst ha
        exact Quiet.mk' hex h2 h3 fun w _ => by
          simp [show e x = .pointer (some a) from hx, hi, Instr.indexAt, asIntOf, run_underlying' hT, Instr.sureAddr, hr, run_sizeOf hk]
      · rename_i k b off hk h1; rw [h1] at hx
        obtain ⟨hr, hm⟩ := hm
        exact Quiet.mk' hex hm ⟨hr, rfl⟩ fun w _ => by
          simp [show e x = .pointer (some ⟨κ b, off, none⟩) from hx, hi, Instr.indexAt, asIntOf, run_underlying' hT, Instr.sureAddr, hr, run_sizeOf hk, add_none]
      · cases hm
    · cases hm
  | index T x i =>
    rw [ho] at hm
    have hex : execOp e o = (do pure (.value (← Instr.index T (e x) (e i)))) := by simp only [execOp, ho]
    simp only [silM, indexM] at hm
    have hx := he.ev x
    split at hm
    · rename_i m el kk n hT hn
      have hi := asInt_spec hn (he.ev i)
      split at hm
      · rename_i k m' k' f hk h1; rw [h1] at hx
        obtain ⟨hr, hm⟩ := hm
        cases hc : (Nat.beq m' m && decide (k' = k))
        · rw [hc] at hm; exact hm.elim
        rw [hc] at hm
        simp only [cond_true] at hm
        simp only [Bool.and_eq_true, decide_eq_true_eq] at hc
        obtain ⟨hc1, rfl⟩ := hc
        have hc1 := Nat.eq_of_beq_eq_true hc1
        subst hc1
        refine Quiet.mk' hex hm rfl fun w _ => ?_
        have hlt : n.toNat < m' := by omega
        have hget : (List.ofFn f)[n.toNat]? = some (aget f n.toNat) := by
          unfold aget
          rw [dif_pos hlt, List.getElem?_ofFn, dif_pos hlt]
        obtain ⟨p', r', hp', hlen'⟩ := flatMap_at k'.cells k'.size k'.cells_len _ _ _ hget
        have e1 : e x = .agg (Kd.cells (.arr m' k') f).toArray := hx
        rw [e1, hi]
        simp only [Instr.index, asIntOf, Sem.run_bind, Sem.run_pure, Result.andThen_ok, run_underlying' hT, hr, and_self, if_true, run_sizeOf hk]
        exact run_part hk (by simp only [Kd.cells]; exact hp') hlen' w
      · cases hm
    · rename_i kk n hT hn
      have hi := asInt_spec hn (he.ev i)
      split at hm
      · rename_i str h1; rw [h1] at hx
        obtain ⟨hr, hm⟩ := hm
        have hx : e x = .string str := hx
        have hlt : n.toNat < str.size := by omega
        refine Quiet.mk' hex (hm ((str[n.toNat]).toNat : Int)) rfl fun w _ => ?_
        rw [hx, hi]
        have hg : str[n.toNat]? = some str[n.toNat] := by simp [hlt]
        simp only [Instr.index, asIntOf, Sem.run_bind, Sem.run_pure, Result.andThen_ok, run_underlying' hT, hr.1, if_true, hg]
        rfl
      · cases hm
    · cases hm
  | field T x f =>
    rw [ho] at hm
    have hex : execOp e o = (do pure (.value (← Instr.field T (e x) f))) := by simp only [execOp, ho]
    obtain ⟨tv, r, h1, h2, h3⟩ := fieldM_sound (hm : fieldM P T (ev ρ x) f K) (he.ev x)
    exact Quiet.mk' hex h1 h2 fun w _ => h3 w
  | extract t i =>
    rw [ho] at hm
    have hex : execOp e o = (do pure (.value (← Instr.extract (e t) i))) := by simp only [execOp, ho]
    simp only [silM, extractM] at hm
    have hx := he.ev t
    split at hm
    · rename_i k x h1; rw [h1] at hx
      obtain ⟨tv, r, h2, h3, h4⟩ := tupM_sound (κ := κ) k x i hm
      exact Quiet.mk' hex h2 h3 fun w _ => by
        rw [show e t = .tuple (k.comps x).toArray from hx]
        simp [Instr.extract, h4]
    · rename_i b h1; rw [h1] at hx
      obtain ⟨r, hx⟩ := hx
      cases hi : Nat.beq i 0
      · rw [hi] at hm; exact hm.elim
      · rw [hi] at hm
        have hi := Nat.eq_of_beq_eq_true hi
        subst hi
        exact Quiet.mk' hex hm rfl fun w _ => by
          rw [hx]
          have : (#[Value.bool b] ++ r)[0]? = some (.bool b) := by
            rw [Array.getElem?_append_left (by simp)]; rfl
          simp only [Instr.extract, this]
          rfl
    · cases hm
  | slice T x lo hi mx =>
    rw [ho] at hm
    have hex : execOp e o = (do pure (.value (← Instr.sliceAt T (e x) (lo.map e) (hi.map e) (mx.map e)))) := by simp only [execOp, ho]
    obtain ⟨tv, r, h1, h2, h3⟩ := sliceM_sound hm (he.ev x) (ROpt_map he lo) (ROpt_map he hi) (ROpt_map he mx)
    exact Quiet.mk' hex h1 h2 fun w _ => h3 w
  | makeInterface T x =>
    rw [ho] at hm
    simp only [silM, mkIM] at hm
    have hex : execOp e o = (do pure (.value (← Instr.makeInterface T (e x)))) := by simp only [execOp, ho]
    split at hm
    · exact hm.elim
    · rename_i d hd hu
      split at hm
      · rename_i k hk
        split at hm
        · rename_i y hy
          have hx := tvVal_spec hy (he.ev x)
          refine Quiet.mk' hex hm rfl fun w _ => ?_
          rw [hx]
          simp only [Instr.makeInterface, Sem.run_bind, run_underlying' hu, Result.andThen_ok]
          cases d <;> first | rfl | exact absurd rfl (hd _)
        · exact hm.elim
      · exact hm.elim
    · exact hm.elim
  | makeFunc g a b =>
    rw [ho] at hm
    simp only [silM, mkFM] at hm
    have hex : execOp e o = (do pure (.value (← Instr.makeFunc g (a.map e) (b.map e)))) := by simp only [execOp, ho]
    split at hm
    · rename_i x y hx hy
      have h1 := tvArgs_spec he a.toList x hx
      have h2 := tvArgs_spec he b.toList y hy
      refine Quiet.mk' hex hm rfl fun w _ => ?_
      have e1 : a.map e = x.toArray := by rw [← Array.toList_inj]; simp [h1]
      have e2 : b.map e = y.toArray := by rw [← Array.toList_inj]; simp [h2]
      simp only [Instr.makeFunc, e1, e2, Sem.run_pure]
      rfl
    · exact hm.elim
  | lookup T x i ck =>
    rw [ho] at hm
    have hex : execOp e o = (do pure (.value (← Instr.lookup T (e x) (e i) ck))) := by simp only [execOp, ho]
    obtain ⟨tv, r, h1, h2, h3⟩ := lookM_sound (hm : lookM P T (ev ρ x) (ev ρ i) ck h K) (he.ev x) (he.ev i)
    exact Quiet.mk' hex h1 h2 fun w hw => h3 w hw.sub
  | build T parts =>
    rw [ho] at hm
    have hex : execOp e o = (do pure (.value (← Instr.build T (parts.map fun (i, x) => (i, e x))))) := by simp only [execOp, ho]
    obtain ⟨tv, r, h1, h2, h3⟩ := buildM_sound hm (pairs_map he parts.toList)
    refine Quiet.mk' hex h1 h2 fun w _ => ?_
    have := h3 w
    have e1 : (parts.toList.map fun p => (p.1, e p.2)).toArray = parts.map fun (i, x) => (i, e x) := by
      rw [← Array.toList_inj]; simp
    rw [e1] at this
    exact this
  | call c =>
    rw [ho] at hm
    simp only [silM] at hm
    split at hm
    · rename_i b hb
      obtain ⟨tv, r, h1, h2, h3⟩ := biM_sound he hm o.type (c.args.map fun | .const _ => true | _ => false)
      refine ⟨tv, r, h1, h2, fun w _ => ?_⟩
      have e1 : execOp e o = builtin b c.argTypes o.type (c.args.map fun | .const _ => true | _ => false) (c.args.map e) := by
        simp only [execOp, ho, resolve, hb, pure_bind, invoke]; rfl
      rw [e1]
      have e2 : (c.args.toList.map e).toArray = c.args.map e := by rw [← Array.toList_inj]; simp
      rw [← e2]
      exact h3 w
    · cases hm
  | _ => rw [ho] at hm; exact hm.elim

end Go.Mx
