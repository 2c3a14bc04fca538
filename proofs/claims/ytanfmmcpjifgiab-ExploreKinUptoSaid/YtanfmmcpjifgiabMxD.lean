/-
  Operations that leave the world as it is, the rest: loads, addresses, pieces of slices, fields, lengths.
-/
import Derived.Test.YtanfmmcpjifgiabMxC
set_option linter.unusedVariables false
set_option linter.unusedSimpArgs false
namespace Go.Mx

/-- Depth to which a type's kind is looked for. -/
abbrev D : Nat := 8

/-! ### addresses -/
def fOff (P : Program) (T : TypeId) (f : Nat) : Option Nat :=
  match P.underlying T with
  | some (.struct fs) => match fs[f]? with
    | some fd => match kdOf P D fd.type with
      | some k => if k.size = 0 then none else some fd.offset
      | none => none
    | none => none
  | _ => none

theorem add_none (b off n : Nat) : (⟨b, off, none⟩ : Addr).add n = ⟨b, off + n, none⟩ := by
  unfold Addr.add; split
  · rename_i h; subst h; rfl
  · rfl

theorem run_fieldAt {P : Program} {T : TypeId} {f off : Nat} (h : fOff P T f = some off) (a : Addr) (w : World) :
    (Instr.fieldAt T (.pointer (some a)) f).run P w = .ok (.pointer (some (a.add off))) w := by
  unfold fOff at h
  split at h
  · rename_i fs hT
    split at h
    · rename_i fd hf
      split at h
      · rename_i k hk
        split at h
        · cases h
        · rename_i hs
          cases h
          simp only [Instr.fieldAt, Sem.run_bind, run_underlying' hT, Result.andThen_ok, hf, Instr.sureAddr, Sem.run_pure]
          simp [fieldPlace, run_sizeOf hk, hs]
      · cases h
    · cases h
  · cases h

def elemD : TypeDesc → Option (Option Nat × TypeId)
  | .slice e => some (none, e)
  | .array n e => some (some n, e)
  | _ => none

def addrM (p : Option Addr) (off : Nat) (K : TV → Prop) : Prop := deref p fun a => K (.v .ptr (some (a.add off)))

def fieldAddrM (P : Program) (T : TypeId) (x : TV) (f : Nat) (K : TV → Prop) : Prop :=
  match fOff P T f with
  | some off => match x with
    | .v .ptr p => addrM p off K
    | .box i o => K (.box i (o + off))
    | _ => False
  | none => False

def indexAddrM (P : Program) (T : TypeId) (x i : TV) (K : TV → Prop) : Prop :=
  match P.underlying T, asInt i with
  | some (.slice e), some (_, n) => match kdOf P D e, x with
    | some k, .v .sl s => (0 ≤ n ∧ n < s.len) ∧ addrM s.a (n.toNat * k.size) K
    | _, _ => False
  | some (.array m e), some (_, n) => match kdOf P D e, x with
    | some k, .v .ptr p => (0 ≤ n ∧ n < m) ∧ addrM p (n.toNat * k.size) K
    | some k, .box b o => (0 ≤ n ∧ n < m) ∧ K (.boxi b o m k.size n)
    | _, _ => False
  | _, _ => False

/-! ### loads -/
theorem cells_world {h : Heap} {w : World} (s : Sub h w) {a : Addr} {l : List Value} (c : cellsAt h a l) (j : Nat) (v : Value) (e : l[j]? = some v) : w.cell? (a.add j) = some v :=
  cell_sound s (c j v e)

theorem run_loadVar {P : Program} {T : TypeId} {k : Kd} (hk : kdOf P D T = some k) {w : World} {a : Addr} {x : Den k}
    (hc : ∀ j v, (k.cells x)[j]? = some v → w.cell? (a.add j) = some v) : (loadVar T a).run P w = .ok (k.val x) w := by
  unfold loadVar
  simp only [Sem.run_bind, run_isAgg hk, Result.andThen_ok]
  by_cases ha : k.isAgg = true
  · simp only [ha, if_true, Sem.run_bind, run_sizeOf hk, Result.andThen_ok]
    have := run_loadCells_list (P := P) (w := w) a (k.cells x) hc
    rw [Kd.cells_len] at this
    rw [this]
    simp [Kd.val_agg ha]
  · have ha : k.isAgg = false := by simpa using ha
    have := hc 0 (k.val x) (by rw [Kd.cells_one ha]; rfl)
    simp only [ha, Bool.false_eq_true, if_false, run_load]
    have e : a.add 0 = a := rfl
    rw [e] at this
    rw [this]

/-- A value of a kind lies there. -/
def ld (k : Kd) (h : Heap) (a : Addr) (K : Den k → Prop) : Prop := ∃ x : Den k, cellsAt h a (k.cells x) ∧ K x

def arrEnt (a : Kd) (n : Nat) (l : List Ent) (off : Nat) : Option (Fin n → Den a) := getBox (.arr n a) l off

def loadM (P : Program) (T : TypeId) (x : TV) (β : Boxes) (h : Heap) (K : TV → Prop) : Prop :=
  match kdOf P D T with
  | some k => match x with
    | .v .ptr p => deref p fun a => ld k h a fun x => K (.v k x)
    | .box i off => match look β i with
      | some l => match getBox k l off with
        | some x => K (.v k x)
        | none => False
      | none => False
    | .boxi i off n sz ix => match look β i with
      | some l => match getBox (.arr n k) l off with
        | some f => bif Nat.beq k.size sz then K (.v k (aget (n := n) (a := k) f ix.toNat)) else False
        | none => False
      | none => False
    | _ => False
  | none => False

theorem box_cells {w : World} {b : Nat} {t : TypeId} {cs : List Value} (hb : w.heap[b]? = some (.cells cs.toArray t (0, 0))) {p l r : List Value}
    (he : cs = p ++ l ++ r) {off : Nat} (hp : p.length = off) (j : Nat) (v : Value) (hj : l[j]? = some v) : w.cell? ((⟨b, off, none⟩ : Addr).add j) = some v := by
  rw [add_none]
  unfold World.cell?
  simp only [hb, Option.isSome_none, Bool.false_eq_true, if_false]
  rw [List.getElem?_toArray, he, List.append_assoc, List.getElem?_append_right (by omega), ← hp, Nat.add_sub_cancel_left, List.getElem?_append_left]
  · exact hj
  · exact (List.getElem?_eq_some_iff.1 hj).1

theorem flatMap_at {α : Type} (f : α → List Value) (m : Nat) (hf : ∀ x, (f x).length = m) (l : List α) (i : Nat) (x : α) (hi : l[i]? = some x) :
    ∃ p r, l.flatMap f = p ++ f x ++ r ∧ p.length = i * m := by
  have hlt := (List.getElem?_eq_some_iff.1 hi).1
  have hx := (List.getElem?_eq_some_iff.1 hi).2
  refine ⟨(l.take i).flatMap f, (l.drop (i + 1)).flatMap f, ?_, ?_⟩
  · have e : l = l.take i ++ x :: l.drop (i + 1) := by
      rw [← hx]; simp
    conv => lhs; rw [e]
    simp [List.flatMap_append]
  · rw [flatMap_len f m hf]; simp; rw [Nat.min_eq_left (by omega)]

theorem loadM_sound {P : Program} {κ : Nat → Nat} {β : Boxes} {h : Heap} {T : TypeId} {x : TV} {K : TV → Prop} (hm : loadM P T x β h K) {u : Value} (hu : Rl κ x u) :
    ∃ tv r, K tv ∧ Rl κ tv r ∧ ∀ w, SB κ β h w → (Instr.loadAt T u).run P w = .ok r w := by
  unfold loadM at hm
  split at hm
  · rename_i k hk
    split at hm
    · rename_i p
      obtain rfl := hu
      unfold deref at hm
      split at hm
      · rename_i a
        obtain ⟨x, hc, hK⟩ := hm
        exact ⟨_, _, hK, rfl, fun w hw => by
          simp only [Instr.loadAt, Kd.val, Instr.sureAddr, Sem.run_bind, Sem.run_pure, Result.andThen_ok]
          exact run_loadVar hk (fun j v e => cells_world hw.sub hc j v e)⟩
      · cases hm
    · rename_i i off
      obtain rfl := hu
      split at hm
      · rename_i l hl
        split at hm
        · rename_i x hx
          obtain ⟨p, r, hp, hlen⟩ := getBox_spec hx
          exact ⟨_, _, hm, rfl, fun w hw => by
            obtain ⟨t, hb⟩ := hw.box i l hl
            simp only [Instr.loadAt, Instr.sureAddr, Sem.run_bind, Sem.run_pure, Result.andThen_ok]
            exact run_loadVar hk (fun j v e => box_cells hb hp hlen j v e)⟩
        · cases hm
      · cases hm
    · rename_i i off n sz ix
      obtain ⟨hix, rfl⟩ := hu
      split at hm
      · rename_i l hl
        split at hm
        · rename_i f hx
          cases hsz : Nat.beq k.size sz
          · rw [hsz] at hm; exact hm.elim
          rw [hsz] at hm
          simp only [cond_true] at hm
          have hsz := Nat.eq_of_beq_eq_true hsz
          subst hsz
          obtain ⟨p, r, hp, hlen⟩ := getBox_spec hx
          have hlt : ix.toNat < n := by omega
          have hget : (List.ofFn f)[ix.toNat]? = some (aget (n := n) (a := k) f ix.toNat) := by
            unfold aget
            rw [dif_pos hlt]
            rw [List.getElem?_ofFn, dif_pos hlt]
          obtain ⟨p', r', hp', hlen'⟩ := flatMap_at k.cells k.size k.cells_len _ _ _ hget
          exact ⟨_, _, hm, rfl, fun w hw => by
            obtain ⟨t, hb⟩ := hw.box i l hl
            simp only [Instr.loadAt, Instr.sureAddr, Sem.run_bind, Sem.run_pure, Result.andThen_ok]
            refine run_loadVar hk (fun j v e => box_cells hb (p := p ++ p') (r := r' ++ r) ?_ (by simp [hlen, hlen']) j v e)
            rw [hp]
            simp only [Kd.cells]
            rw [hp']
            simp only [List.append_assoc]⟩
        · cases hm
      · cases hm
    · cases hm
  · cases hm

/-! ### pieces of slices -/
def Sl.cut (s : Sl) (lo hi sz : Nat) : Sl := ⟨if s.cap = lo then s.a else s.a.map (·.add (lo * sz)), hi - lo, s.cap - lo⟩

def hiM (s : Sl) (hi : Option TV) (K : Nat → Prop) : Prop :=
  match hi with
  | none => K s.len
  | some t => match asInt t with
    | some (_, n) => (0 ≤ n ∧ n ≤ s.cap) ∧ K n.toNat
    | none => False
def loM (hi : Nat) (lo : Option TV) (K : Nat → Prop) : Prop :=
  match lo with
  | none => K 0
  | some t => match asInt t with
    | some (_, n) => (0 ≤ n ∧ n ≤ hi) ∧ K n.toNat
    | none => False
def sliceM (P : Program) (T : TypeId) (x : TV) (lo hi mx : Option TV) (K : TV → Prop) : Prop :=
  match P.underlying T, mx, x with
  | some (.slice e), none, .v .sl s => match kdOf P D e with
    | some k => hiM s hi fun h => loM h lo fun l => K (.v .sl (s.cut l h k.size))
    | none => False
  | _, _, _ => False

theorem run_sliceBound_in {P : Program} {k : IntKind} {n : Int} {y : Nat} {c : BoundsCode} {w : World} (h : 0 ≤ n ∧ n ≤ y) :
    (Instr.sliceBound (.int k n) y c).run P w = .ok n.toNat w := by
  simp [Instr.sliceBound, asIntOf, h]

def ROpt (κ : Nat → Nat) : Option TV → Option Value → Prop
  | none, none => True
  | some t, some u => Rl κ t u
  | _, _ => False

theorem sliceM_sound {P : Program} {κ : Nat → Nat} {T : TypeId} {x : TV} {lo hi mx : Option TV} {K : TV → Prop} (hm : sliceM P T x lo hi mx K)
    {u : Value} {ul uh um : Option Value} (hu : Rl κ x u) (hl : ROpt κ lo ul) (hh : ROpt κ hi uh) (hx : ROpt κ mx um) :
    ∃ tv r, K tv ∧ Rl κ tv r ∧ ∀ w, (Instr.sliceAt T u ul uh um).run P w = .ok r w := by
  unfold sliceM at hm
  split at hm
  · rename_i e s hT
    have hum : um = none := by cases um with | none => rfl | some _ => exact hx.elim
    subst hum
    obtain rfl := hu
    split at hm
    · rename_i k hk
      have hhi : ∃ h, (loM h lo fun l => K (.v .sl (s.cut l h k.size))) ∧ ∀ w, (match uh with | some v => Instr.sliceBound v s.cap .sliceAcap | none => pure s.len : Sem Nat).run P w = .ok h w := by
        unfold hiM at hm
        split at hm
        · cases uh with
          | none => exact ⟨_, hm, fun w => rfl⟩
          | some _ => exact hh.elim
        · rename_i t
          cases uh with
          | none => exact hh.elim
          | some v =>
            split at hm
            · rename_i kk n hn
              have := asInt_spec hn hh
              subst this
              exact ⟨_, hm.2, fun w => run_sliceBound_in hm.1⟩
            · cases hm
      obtain ⟨h, hm, hrun⟩ := hhi
      have hlo : ∃ l, K (.v .sl (s.cut l h k.size)) ∧ ∀ w, (match ul with | some v => Instr.sliceBound v h .sliceB | none => pure 0 : Sem Nat).run P w = .ok l w := by
        unfold loM at hm
        split at hm
        · cases ul with
          | none => exact ⟨_, hm, fun w => rfl⟩
          | some _ => exact hl.elim
        · rename_i t
          cases ul with
          | none => exact hl.elim
          | some v =>
            split at hm
            · rename_i kk n hn
              have := asInt_spec hn hl
              subst this
              exact ⟨_, hm.2, fun w => run_sliceBound_in hm.1⟩
            · cases hm
      obtain ⟨l, hK, hrun2⟩ := hlo
      refine ⟨_, _, hK, rfl, fun w => ?_⟩
      simp only [Instr.sliceAt, Instr.slice, Sem.run_bind, run_underlying' hT, Result.andThen_ok, Kd.val, Sl.val, Instr.sliceBounds, Sem.run_pure]
      cases uh <;> cases ul <;> simp_all [run_sizeOf hk, Sl.cut]
    · cases hm
  · cases hm

/-! ### components -/
def tupM : (k : Kd) → Den k → Nat → (TV → Prop) → Prop
  | .pair a b, x, 0, K => K (.v a x.1)
  | .pair a b, x, n + 1, K => tupM b x.2 n K
  | _, _, _, _ => False
theorem tupM_sound {κ : Nat → Nat} {K : TV → Prop} : ∀ (k : Kd) (x : Den k) (n : Nat), tupM k x n K → ∃ tv r, K tv ∧ Rl κ tv r ∧ (k.comps x)[n]? = some r
  | .pair a b, x, 0, h => ⟨_, _, h, rfl, rfl⟩
  | .pair a b, x, n + 1, h => by
    obtain ⟨tv, r, h1, h2, h3⟩ := tupM_sound b x.2 n h
    exact ⟨tv, r, h1, h2, by simpa [Kd.comps] using h3⟩
def extractM (x : TV) (i : Nat) (K : TV → Prop) : Prop :=
  match x with
  | .tup k x => tupM k x i K
  | _ => False

/-- A struct value's field. -/
def fieldM (P : Program) (T : TypeId) (x : TV) (f : Nat) (K : TV → Prop) : Prop :=
  match P.underlying T, x with
  | some (.struct fs), .v k x => match fs[f]? with
    | some fd => match kdOf P D fd.type with
      | some kf => bif k.isAgg then (match getBox kf (k.dis x) fd.offset with
        | some y => K (.v kf y)
        | none => False) else False
      | none => False
    | none => False
  | _, _ => False

theorem run_part {P : Program} {T : TypeId} {k : Kd} (hk : kdOf P D T = some k) {cs p r : List Value} {x : Den k} {off : Nat} (he : cs = p ++ k.cells x ++ r) (hp : p.length = off) (w : World) :
    (part T cs.toArray off).run P w = .ok (k.val x) w := by
  unfold part
  simp only [Sem.run_bind, run_isAgg hk, Result.andThen_ok]
  by_cases ha : k.isAgg = true
  · simp only [ha, if_true, Sem.run_bind, run_sizeOf hk, Result.andThen_ok, Sem.run_pure]
    rw [Kd.val_agg ha]
    congr 2
    rw [he]
    simp only [List.extract_toArray, List.extract_eq_take_drop]
    congr 1
    rw [← hp, List.append_assoc, List.drop_left' rfl, Nat.add_sub_cancel_left, ← Kd.cells_len k x, List.take_left' rfl]
  · have ha : k.isAgg = false := by simpa using ha
    simp only [ha, Bool.false_eq_true, if_false]
    have : cs.toArray[off]? = some (k.val x) := by
      rw [List.getElem?_toArray, he, Kd.cells_one ha, List.append_assoc, List.getElem?_append_right (by omega), ← hp]
      simp
    simp [this]

theorem fieldM_sound {P : Program} {κ : Nat → Nat} {T : TypeId} {x : TV} {f : Nat} {K : TV → Prop} (hm : fieldM P T x f K) {u : Value} (hu : Rl κ x u) :
    ∃ tv r, K tv ∧ Rl κ tv r ∧ ∀ w, (Instr.field T u f).run P w = .ok r w := by
  unfold fieldM at hm
  split at hm
  · rename_i fs k x hT
    obtain rfl := hu
    split at hm
    · rename_i fd hf
      split at hm
      · rename_i kf hkf
        cases ha : k.isAgg
        · rw [ha] at hm; exact hm.elim
        rw [ha] at hm
        simp only [cond_true] at hm
        split at hm
        · rename_i y hy
          obtain ⟨p, r, hp, hlen⟩ := getBox_spec hy
          rw [Kd.dis_cells] at hp
          refine ⟨_, _, hm, rfl, fun w => ?_⟩
          simp only [Instr.field, Sem.run_bind, run_underlying' hT, Result.andThen_ok, hf, Kd.val_agg ha, asAgg, Sem.run_pure]
          exact run_part hkf hp hlen w
        · cases hm
      · cases hm
    · cases hm
  · cases hm

end Go.Mx
