/-
  Operations that leave the world as it is: all together.
-/
import Derived.Test.YtanfmmcpjifgiabMxMa
set_option linter.unusedVariables false
set_option linter.unusedSimpArgs false
namespace Go.Mx

/-- A slot's value as entries, if it is of the kind. -/
def tvEnt (k : Kd) : TV → Option (List Ent)
  | .v k' x => if h : k' = k then (if k.plain then some (k.dis (h ▸ x)) else none) else none
  | .kb b => if h : Kd.bool = k then some (k.dis (h ▸ b)) else none
  | _ => none
theorem tvEnt_spec {κ : Nat → Nat} {k : Kd} {t : TV} {l : List Ent} (h : tvEnt k t = some l) {u : Value} (r : Rl κ t u) :
    u.cells = (entCells l).toArray ∧ (entCells l).length = k.size := by
  unfold tvEnt at h
  split at h
  · split at h
    · rename_i hk
      subst hk
      split at h
      · rename_i hp
        cases h
        obtain rfl := r
        rw [Kd.dis_cells, Kd.val_cells hp]
        exact ⟨rfl, Kd.cells_len _ _⟩
      · cases h
    · cases h
  · split at h
    · rename_i hk
      subst hk
      cases h
      obtain rfl := r
      exact ⟨rfl, rfl⟩
    · cases h
  · cases h

def pickM (c a b : TV) (K : TV → Prop) : Prop :=
  match c with
  | .kb true => K a
  | .kb false => K b
  | .v .bool x => match asBool a, asBool b with
    | some y, some z => K (.v .bool (bif x then y else z))
    | _, _ => False
  | _ => False

def unM (op : UnOp) (x : TV) (K : TV → Prop) : Prop :=
  match op with
  | .not => match x with
    | .kb true => K (.kb false)
    | .kb false => K (.kb true)
    | .v .bool b => K (.v .bool (!b))
    | _ => False
  | .neg => match asInt x with
    | some (k, n) => K (.v (.int k) (k.wrap (0 - n)))
    | none => False
  | _ => False

def nilCheckM (x : TV) (K : TV → Prop) : Prop :=
  match x with
  | .box i off => K (.box i off)
  | .v .ptr p => deref p fun a => K (.v .ptr (some a))
  | _ => False

def convM (P : Program) (src dst : TypeId) (x : TV) (K : TV → Prop) : Prop :=
  match P.underlying src, P.underlying dst, asInt x with
  | some _, some (.int k), some (_, n) => K (.v (.int k) (k.wrap n))
  | _, _, _ => False

def lenM (P : Program) (T : TypeId) (x : TV) (K : TV → Prop) : Prop :=
  match P.underlying T with
  | some (.slice _) => match x with
    | .v .sl s => K (.v (.int .i64) s.len)
    | _ => False
  | some .string => match x with
    | .v .str s => K (.v (.int .i64) s.size)
    | _ => False
  | some (.array n _) => K (.v (.int .i64) n)
  | _ => False
def capM (P : Program) (T : TypeId) (x : TV) (K : TV → Prop) : Prop :=
  match P.underlying T, x with
  | some (.slice _), .v .sl s => K (.v (.int .i64) s.cap)
  | _, _ => False

/-- An array value's element. -/
def indexM (P : Program) (T : TypeId) (x i : TV) (K : TV → Prop) : Prop :=
  match P.underlying T, asInt i with
  | some (.array m e), some (_, n) => match kdOf P D e, x with
    | some k, .v (.arr m' k') f => (0 ≤ n ∧ n < m) ∧ (bif Nat.beq m' m && decide (k' = k) then K (.v k' (aget f n.toNat)) else False)
    | _, _ => False
  | some .string, some (_, n) => match x with
    | .v .str s => (0 ≤ n ∧ n < (s.size : Int)) ∧ ∀ b : Int, K (.v (.int .u8) b)
    | _ => False
  | _, _ => False

def mmM (mx : Bool) (x y : TV) (K : TV → Prop) : Prop :=
  match asInt x, asInt y with
  | some (k, a), some (k', b) => bif decide (k' = k) then K (.v (.int k) (bif mx then (if a < b then b else a) else (if b < a then b else a))) else False
  | _, _ => False

def fillE (P : Program) (fs : Array Field) : List Ent → List (Nat × TV) → Option (List Ent)
  | l, [] => some l
  | l, (i, t) :: r => match fs[i]? with
    | some fd => match kdOf P D fd.type with
      | some kf => match tvEnt kf t with
        | some es => match putBox l fd.offset es with
          | some m => fillE P fs m r
          | none => none
        | none => none
      | none => none
    | none => none
def buildM (P : Program) (T : TypeId) (parts : List (Nat × TV)) (K : TV → Prop) : Prop :=
  match kdOf P D T, P.underlying T with
  | some k, some (.struct fs) => match fillE P fs (k.dis k.zero) parts with
    | some l => match k.asm l with
      | some (x, []) => bif k.isAgg then K (.v k x) else False
      | _ => False
    | none => False
  | some k, some (.array m e) => match parts with
    | [] => bif k.isAgg && (kdOf P D e).isSome then K (.v k k.zero) else False
    | _ => False
  | _, _ => False

theorem foldl_set : ∀ (new : List Value) (cs : List Value) (off j : Nat), off + j + new.length ≤ cs.length →
    ((new.zipIdx j).foldl (fun (a : Array Value) (c : Value × Nat) => a.setIfInBounds (off + c.2) c.1) cs.toArray) = (splice cs (off + j) new).toArray
  | [], cs, off, j, h => by simp [splice]
  | v :: new, cs, off, j, h => by
    simp only [List.zipIdx_cons, List.foldl_cons]
    have : cs.toArray.setIfInBounds (off + j) v = (cs.set (off + j) v).toArray := by simp
    rw [this, foldl_set new _ off (j + 1) (by simp at h ⊢; omega)]
    congr 1
    simp only [splice, List.length_cons] at h ⊢
    have e : off + (j + 1) = off + j + 1 := by omega
    rw [e]
    have hlt : off + j < cs.length := by omega
    have es : cs.set (off + j) v = (cs.take (off + j) ++ [v]) ++ cs.drop (off + j + 1) := by
      rw [List.set_eq_take_append_cons_drop, if_pos hlt]; simp
    have el : (cs.take (off + j) ++ [v]).length = off + j + 1 := by simp; omega
    rw [es, List.take_left' el, ← List.drop_drop, List.drop_left' el, List.drop_drop]
    rw [show off + j + 1 + new.length = off + j + (new.length + 1) from by omega]
    simp

/-- Two lists, pair by pair. -/
inductive Pairs {α β : Type} (R : α → β → Prop) : List α → List β → Prop
  | nil : Pairs R [] []
  | cons {a b l m} : R a b → Pairs R l m → Pairs R (a :: l) (b :: m)

theorem fillE_sound {P : Program} {κ : Nat → Nat} {fs : Array Field} {places : Array (Nat × Nat)}
    (hpl : ∀ (i : Nat) (fd : Field) (k : Kd), fs[i]? = some fd → kdOf P D fd.type = some k → places[i]? = some (fd.offset, k.size)) :
    ∀ (parts : List (Nat × TV)) (vs : List (Nat × Value)) (l m : List Ent), fillE P fs l parts = some m →
      Pairs (fun (p : Nat × TV) (q : Nat × Value) => p.1 = q.1 ∧ Rl κ p.2 q.2) parts vs →
      Instr.fill (places[·]?) (entCells l).toArray vs = some (entCells m).toArray := by
  intro parts
  induction parts with
  | nil => intro vs l m h hr; cases hr; simp [fillE] at h; subst h; rfl
  | cons p parts ih =>
    intro vs l m h hr
    cases hr with
    | cons h1 h2 =>
      rename_i q qs
      obtain ⟨i, t⟩ := p
      obtain ⟨i', u⟩ := q
      obtain ⟨rfl, hu⟩ := h1
      dsimp only at hu
      simp only [fillE] at h
      split at h
      · rename_i fd hfd
        split at h
        · rename_i kf hkf
          split at h
          · rename_i es hes
            split at h
            · rename_i m1 hm1
              obtain ⟨hc, hlen⟩ := tvEnt_spec hes hu
              obtain ⟨hput, hsz⟩ := putBox_spec hm1
              simp only [Instr.fill, hpl i fd kf hfd hkf]
              have e1 : u.cells.size = kf.size := by rw [hc]; simp [hlen]
              have e2 : fd.offset + u.cells.size ≤ (entCells l).toArray.size := by
                rw [e1, ← hlen]; simp only [List.size_toArray, entCells_len]; omega
              rw [if_neg (by simp only [Bool.or_eq_true, decide_eq_true_eq]; omega)]
              have e3 : u.cells.zipIdx.foldl (fun (cs : Array Value) (x : Value × Nat) => cs.setIfInBounds (fd.offset + x.2) x.1) (entCells l).toArray = (entCells m1).toArray := by
                rw [hc, ← Array.foldl_toList, Array.toList_zipIdx, hput]
                have := foldl_set (entCells es) (entCells l) fd.offset 0 (by rw [e1] at e2; simp at e2; omega)
                simpa using this
              have := ih qs m1 m h h2
              rw [← this]
              congr 1
            · cases h
          · cases h
        · cases h
      · cases h

def place1 (f : Field) : Sem (Nat × Nat) := do pure (f.offset, ← sizeOf f.type)
theorem mapM_places {P : Program} {fs : Array Field} {w : World} (hk : ∀ fd ∈ fs.toList, ∃ n, (sizeOf fd.type).run P w = .ok n w) :
    ∃ pl : Array (Nat × Nat), (fs.mapM place1).run P w = .ok pl w ∧
      ∀ (i : Nat) (fd : Field) (n : Nat), fs[i]? = some fd → (sizeOf fd.type).run P w = .ok n w → pl[i]? = some (fd.offset, n) := by
  have key : ∀ (l : List Field), (∀ fd ∈ l, ∃ n, (sizeOf fd.type).run P w = .ok n w) →
      ∃ pl : List (Nat × Nat), (l.mapM place1).run P w = .ok pl w ∧
        ∀ (i : Nat) (fd : Field) (n : Nat), l[i]? = some fd → (sizeOf fd.type).run P w = .ok n w → pl[i]? = some (fd.offset, n) := by
    intro l
    induction l with
    | nil => intro _; exact ⟨[], rfl, fun i fd n h => by simp at h⟩
    | cons f l ih =>
      intro h
      obtain ⟨n, hn⟩ := h f (by simp)
      obtain ⟨pl, h1, h2⟩ := ih (fun fd hfd => h fd (by simp [hfd]))
      refine ⟨(f.offset, n) :: pl, ?_, ?_⟩
      · simp only [List.mapM_cons, place1, Sem.run_bind, hn, Result.andThen_ok, Sem.run_pure, h1]
      · intro i fd m hi hm
        cases i with
        | zero => simp at hi; subst hi; rw [hn] at hm; cases hm; rfl
        | succ i => exact h2 i fd m (by simpa using hi) hm
  obtain ⟨pl, h1, h2⟩ := key fs.toList hk
  refine ⟨pl.toArray, ?_, fun i fd n h => by simpa using h2 i fd n (by simpa using h)⟩
  rw [Array.mapM_eq_mapM_toList]
  simp [h1]

theorem kdOf_fields {P : Program} {n : Nat} {T : TypeId} {k : Kd} {fs : Array Field} (hk : kdOf P (n + 1) T = some k) (hT : P.underlying T = some (.struct fs)) :
    ∀ fd ∈ fs.toList, ∃ k', kdOf P n fd.type = some k' := by
  simp only [kdOf, hT] at hk
  split at hk
  · rename_i i d hi hd
    cases hd
    have key : ∀ (l : List Field) (q : Kd), l.foldr (fun f acc => match kdOf P n f.type, acc with | some a, some b => some (Kd.pair a b) | _, _ => none) (some .nil) = some q →
        ∀ fd ∈ l, ∃ k', kdOf P n fd.type = some k' := by
      intro l
      induction l with
      | nil => intro q _ fd h; cases h
      | cons f l ih =>
        intro q h fd hfd
        simp only [List.foldr_cons] at h
        split at h
        · rename_i a b ha hb
          cases hfd with
          | head => exact ⟨a, ha⟩
          | tail _ hm => exact ih b hb fd hm
        · cases h
    dsimp only at hk
    split at hk
    · rename_i q hq
      exact key _ _ hq
    · cases hk
  · cases hk

theorem buildM_sound {P : Program} {κ : Nat → Nat} {T : TypeId} {parts : List (Nat × TV)} {K : TV → Prop} (hm : buildM P T parts K)
    {vs : List (Nat × Value)} (hv : Pairs (fun (p : Nat × TV) (q : Nat × Value) => p.1 = q.1 ∧ Rl κ p.2 q.2) parts vs) :
    ∃ tv r, K tv ∧ Rl κ tv r ∧ ∀ w, (Instr.build T vs.toArray).run P w = .ok r w := by
  unfold buildM at hm
  split at hm
  · rename_i k fs hk hT
    split at hm
    · rename_i l hl
      split at hm
      · rename_i x hx
        cases ha : k.isAgg
        · rw [ha] at hm; exact hm.elim
        rw [ha] at hm
        simp only [cond_true] at hm
        refine ⟨_, _, hm, rfl, fun w => ?_⟩
        have hf := kdOf_fields hk hT
        obtain ⟨pl, h1, h2⟩ := mapM_places (P := P) (fs := fs) (w := w) (fun fd hfd => by obtain ⟨k', hk'⟩ := hf fd hfd; exact ⟨_, run_sizeOf hk' w⟩)
        have h3 := fillE_sound (κ := κ) (places := pl) (fun i fd k' hi hk' => h2 i fd _ hi (run_sizeOf hk' w)) parts vs _ _ hl hv
        have h4 : (fs.mapM fun f => (do pure (f.offset, ← sizeOf f.type) : Sem (Nat × Nat))).run P w = .ok pl w := h1
        have h5 := Kd.asm_spec _ _ _ _ hx
        rw [Kd.dis_cells] at h3
        simp only [Instr.build, Sem.run_bind, run_zeroValue hk, Result.andThen_ok, run_underlying' hT, h4, Kd.val_agg ha, Value.cells]
        have h6 : Instr.fill (fun i => pl[i]?) (k.cells k.zero).toArray vs = some (entCells l).toArray := h3
        simp only [h6, Sem.run_pure, h5, entCells, List.append_nil]
      · cases hm
    · cases hm
  · rename_i k m e hk hT
    split at hm
    · cases hv
      cases ha : (k.isAgg && (kdOf P D e).isSome)
      · rw [ha] at hm; exact hm.elim
      rw [ha] at hm
      simp only [cond_true] at hm
      simp only [Bool.and_eq_true] at ha
      obtain ⟨ke, hke⟩ := Option.isSome_iff_exists.1 ha.2
      refine ⟨_, _, hm, rfl, fun w => ?_⟩
      simp only [Instr.build, Sem.run_bind, run_zeroValue hk, Result.andThen_ok, run_underlying' hT, run_sizeOf hke, Kd.val_agg ha.1, Value.cells, Instr.fill, Sem.run_pure]
    · exact hm.elim
  · cases hm

end Go.Mx
