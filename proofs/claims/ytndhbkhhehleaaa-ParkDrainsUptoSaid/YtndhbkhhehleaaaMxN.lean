/-
  A range over a function: the loop's record, its rounds.
  Code with marks on it: which variables are hidden, what is carried round a loop and behind a branch; what it comes to; that the machine comes to the same.
  A function: from its marked code to its calls.
-/
import Derived.Test.YtndhbkhhehleaaaMxO
set_option linter.unusedVariables false
set_option linter.unusedSimpArgs false
set_option linter.unusedSectionVars false
namespace Go.Mx

def noBox : TV → TV
  | .box _ _ | .boxi _ _ _ _ _ => .junk
  | v => v
theorem Rl_noBox {κ : Nat → Nat} {v : TV} {u : Value} (r : Rl κ v u) : Rl κ (noBox v) u := by
  cases v <;> first | exact r | trivial
def drop2 (h : Heap) (l d : Nat) : Heap := fun b => bif Nat.beq b l || Nat.beq b d then none else h b
theorem drop2_le {h : Heap} {l d : Nat} : ∀ b o, drop2 h l d b = some o → h b = some o := fun b o e => by
  unfold drop2 at e
  cases c : Nat.beq b l || Nat.beq b d
  · rw [c] at e; exact e
  · rw [c] at e; cases e
theorem drop2_l (h : Heap) (l d : Nat) : drop2 h l d l = none := by unfold drop2; rw [Nat.beq_refl]; rfl
theorem drop2_d (h : Heap) (l d : Nat) : drop2 h l d d = none := by unfold drop2; rw [Nat.beq_refl, Bool.or_true]; rfl
theorem St.raw {D0 h0 w0 n F Z κ ρ β h a w} (s : St D0 h0 w0 n F Z κ ρ β h a w) {b : Nat} {o o' : Obj} (hb : h b = some (.raw o)) (t : tagOf (some o) = none) (t' : tagOf (some o') = none) :
    St D0 h0 w0 n F Z κ ρ β (upd h b (.raw o')) a { w with heap := w.heap.setIfInBounds b o' } := by
  have q := raw_inv s.inv.sub hb t t' w.drawn
  refine ⟨s.inv.trans q, fun i l e => ?_, s.inj, fun x hx => ?_, s.zf, s.size, s.slot, s.defers⟩
  · obtain ⟨⟨t, q1⟩, q2, q3⟩ := s.box i l e
    obtain ⟨k1, k2⟩ := q.keep (κ i) (s.box_lt e) q2
    exact ⟨⟨t, k1.trans q1⟩, k2, q3⟩
  · obtain ⟨z1, z2⟩ := s.z x hx
    exact ⟨Nat.lt_of_lt_of_le z1 q.size, (q.keep x z1 z2).2⟩

theorem ofValue_run {P : Program} {u : Value} {vs : Array Value} {f : FuncId} {as : Array Value} (h : ∀ w, (do let d ← Deferred.ofValue u vs; invoke d.target d.args : Sem Next).run P w = .ok (.enter f as) w) :
    ∃ d, ∀ w, (Deferred.ofValue u vs).run P w = .ok d w ∧ (invoke d.target d.args).run P w = .ok (.enter f as) w := by
  cases u with
  | func fn first cap => exact ⟨{ target := .fn fn cap, args := first ++ vs }, fun w => ⟨rfl, h w⟩⟩
  | nilFunc => exact ⟨{ target := .nil, args := vs }, fun w => ⟨rfl, h w⟩⟩
  | _ =>
    have := h (default : World)
    simp only [Deferred.ofValue, Sem.run_bind, stuck, Sem.run, Result.andThen] at this
    cases this

def loopO (fn : FuncId) (tmps : Array Value) (ps : Array Tmp) (asg body : Code) (d : Nat) (st : LoopState) : Obj := .loop { state := st, pending := none, fn, tmps, params := ps, assign := asg, body, defers := d }
theorem yield_run {P : Program} {w : World} {l : Nat} {fn : FuncId} {tmps : Array Value} {p : Nat} {asg body : Code} {d : Nat} {st : LoopState} (hw : w.heap[l]? = some (loopO fn tmps #[p] asg body d st)) (x : Value) :
    (do let d ← Deferred.ofValue (.func (.yield l) #[] #[]) #[x]; invoke d.target d.args : Sem Next).run P w = .ok (.round l fn (tmps.setIfInBounds p x) asg body) w := by
  simp only [Deferred.ofValue, pure_bind, invoke, Instr.yield, Instr.getLoop, Sem.run_bind, run_getObj_some hw rfl, Result.andThen_ok, loopO, Sem.run_pure]
  simp
theorem begin_run {P : Program} {w : World} {l : Nat} {fn : FuncId} {tmps : Array Value} {ps : Array Tmp} {asg body : Code} {d : Nat} (hw : w.heap[l]? = some (loopO fn tmps ps asg body d .ready)) :
    (Instr.beginRound l).run P w = .ok () { w with heap := w.heap.setIfInBounds l (loopO fn tmps ps asg body d .busy) } := by
  simp only [Instr.beginRound, Instr.getLoop, Sem.run_bind, run_getObj_some hw rfl, Result.andThen_ok, loopO, Sem.run_pure, run_setObj_some hw rfl]
theorem end_run {P : Program} {w : World} {l : Nat} {fn : FuncId} {tmps : Array Value} {ps : Array Tmp} {asg body : Code} {d : Nat} (hw : w.heap[l]? = some (loopO fn tmps ps asg body d .busy)) :
    (Instr.endRound l none).run P w = .ok (.bool true) { w with heap := w.heap.setIfInBounds l (loopO fn tmps ps asg body d .ready) } := by
  simp only [Instr.endRound, Instr.getLoop, Sem.run_bind, run_getObj_some hw rfl, Result.andThen_ok, loopO, Sem.run_pure, run_setObj_some hw rfl]
  rfl
theorem endLoop_run {P : Program} {w : World} {l : Nat} {fn : FuncId} {tmps : Array Value} {ps : Array Tmp} {asg body : Code} {d : Nat} (hw : w.heap[l]? = some (loopO fn tmps ps asg body d .ready)) :
    (Instr.endLoop l).run P w = .ok none { w with heap := w.heap.setIfInBounds l (loopO fn tmps ps asg body d .exhausted) } := by
  simp only [Instr.endLoop, Instr.getLoop, Sem.run_bind, run_getObj_some hw rfl, Result.andThen_ok, loopO, Sem.run_pure]
  rw [if_neg (by decide)]
  simp only [Sem.run_bind, run_setObj_some hw rfl, Result.andThen_ok, Sem.run_pure]
theorem enter_run {P : Program} {w : World} {fn : FuncId} {tmps : Array Value} {ps : Array Tmp} {asg body : Code} :
    (Instr.enterLoop fn tmps ps asg body none).run P w = .ok (w.heap.size + 1, [{ target := .collected w.heap.size, args := #[] }]) ((w.alloc (.deferred (some []))).alloc (loopO fn tmps ps asg body w.heap.size .ready)) := by
  have e : (w.alloc (.deferred (some []))).heap.size = w.heap.size + 1 := size_alloc ..
  simp only [Instr.enterLoop, Sem.run_bind, run_newObj, Result.andThen_ok, Sem.run_pure]
  show Result.ok ((w.alloc (.deferred (some []))).heap.size, _) _ = _
  rw [e]; rfl
theorem take_run {P : Program} {w : World} {r : Nat} (hw : w.heap[r]? = some (.deferred (some []))) : (Instr.takeDeferred r).run P w = .ok [] { w with heap := w.heap.setIfInBounds r (.deferred none) } := by
  simp only [Instr.takeDeferred, Sem.run_bind, run_getObj_some hw rfl, Result.andThen_ok, run_setObj_some hw rfl, Sem.run_pure]
end Go.Mx

namespace Go.Mx

inductive Carry where
  | slot (t : Nat) (k : Kd)
  | box (i : Nat) (k : Kd)
  | drop (i : Nat)

inductive AC where
  | reg (id : Nat) (ops : Array Oper) (hid : List Nat)
  | regD (id : Nat) (ops : Array Oper) (hid mods : List Nat) (steps : List Stp)
  | regY (id : Nat) (ops : Array Oper) (hid : List Nat)
  | rf (pre : AC) (id : Nat) (g : Operand) (p : Nat) (kx : Kd) (asg body x : AC)
  | seq (a b : AC)
  | seqJ (c : List Carry) (a b : AC)
  | seqC (c : List Carry) (A : List (Nat × Nat × Nat)) (a b : AC)
  | cond (c : Operand) (a b : AC)
  | block (id : Nat) (a : AC)
  | loop (c : List Carry) (a : AC)
  | exit (id : Nat)
  | ret
  | skip
  | label (l : Nat)

def AC.code : AC → Code
  | .reg id ops _ | .regY id ops _ => .region id ops false
  | .rf pre id g p _ asg body x => .seq (.seq pre.code (.block id (.rangeFunc g #[p] asg.code body.code))) (.seq x.code .ret)
  | .regD id ops _ _ _ => .region id ops true
  | .seq a b | .seqJ _ a b | .seqC _ _ a b => .seq a.code b.code
  | .cond c a b => .cond c a.code b.code
  | .block id a => .block id a.code
  | .loop _ a => .loop a.code
  | .exit id => .exit id
  | .ret => .ret
  | .skip => .skip
  | .label l => .label l

def AC.wr : AC → List Nat
  | .reg _ ops _ | .regY _ ops _ => wrR ops
  | .rf pre _ _ _ _ _ _ _ => pre.wr
  | .regD _ ops _ _ _ => wrR ops
  | .seq a b | .seqJ _ a b | .seqC _ _ a b | .cond _ a b => a.wr ++ b.wr
  | .block _ a | .loop _ a => a.wr
  | _ => []

def AC.plain : AC → Bool
  | .regD .. | .rf .. => false
  | .seq a b | .seqJ _ a b | .seqC _ _ a b | .cond _ a b => a.plain && b.plain
  | .block _ a | .loop _ a => a.plain
  | _ => true

def kdC : List Carry → Kd
  | [] => .nil
  | .slot _ k :: r => .pair k (kdC r)
  | .box _ k :: r => .pair k (kdC r)
  | .drop _ :: r => kdC r

def getC : (c : List Carry) → Slots → Boxes → Option (Den (kdC c))
  | [], _, _ => some ()
  | .slot t k :: r, ρ, β => match tvVal k (ρ t), getC r ρ β with
    | some x, some y => some (x, y)
    | _, _ => none
  | .box i k :: r, ρ, β => match look β i with
    | some l => match k.asm l, getC r ρ β with
      | some (x, []), some y => some (x, y)
      | _, _ => none
    | none => none
  | .drop _ :: r, ρ, β => getC r ρ β
def setC : (c : List Carry) → Den (kdC c) → Slots → Slots
  | [], _, ρ => ρ
  | .slot t k :: r, x, ρ => putS (setC r x.2 ρ) (some t) (.v k x.1)
  | .box _ _ :: r, x, ρ => setC r x.2 ρ
  | .drop _ :: r, x, ρ => setC r x ρ
def setB : (c : List Carry) → Den (kdC c) → Boxes → Boxes
  | [], _, β => β
  | .slot _ _ :: r, x, β => setB r x.2 β
  | .box i k :: r, x, β => (i, k.dis x.1) :: setB r x.2 β
  | .drop _ :: r, x, β => setB r x β

def boxesC : List Carry → List Nat
  | [] => []
  | .slot _ _ :: r => boxesC r
  | .box i _ :: r => i :: boxesC r
  | .drop i :: r => i :: boxesC r

def cleanT (W : List Nat) : TV → TV
  | .box i o => bif W.contains i then .junk else .box i o
  | .boxi i o n sz ix => bif W.contains i then .junk else .boxi i o n sz ix
  | v => v
def clean (W : List Nat) (ρ : Slots) : Slots := fun t => bif W.contains t then .junk else cleanT W (ρ t)
def kept (W : List Nat) (c : List Carry) (β : Boxes) : Boxes := β.filter fun p => !(W.contains p.1 || (boxesC c).contains p.1)

theorem look_filter (f : Nat → Bool) : ∀ (β : Boxes) (i : Nat), look (β.filter fun p => f p.1) i = if f i then look β i else none
  | [], i => by simp [look]
  | (j, l) :: β, i => by
    have ih := look_filter f β i
    by_cases hj : f j = true
    · simp only [List.filter_cons, hj, if_true, look]
      by_cases c : i = j
      · subst c; simp [hj]
      · rw [beq_no c]; simp only [cond_false]; exact ih
    · have hj : f j = false := by simpa using hj
      simp only [List.filter_cons, hj, Bool.false_eq_true, if_false, look]
      rw [ih]
      by_cases c : i = j
      · subst c; simp [hj]
      · rw [beq_no c]; rfl
theorem look_kept (W : List Nat) (c : List Carry) (β : Boxes) (i : Nat) : look (kept W c β) i = if (!(W.contains i || (boxesC c).contains i)) = true then look β i else none :=
  look_filter (fun i => !(W.contains i || (boxesC c).contains i)) β i
theorem mem_look {β : Boxes} {i : Nat} (h : (β.map (·.1)).contains i = true) : ∃ l, look β i = some l := by
  induction β with
  | nil => simp at h
  | cons p β ih =>
    obtain ⟨j, m⟩ := p
    simp only [look]
    by_cases c : i = j
    · subst c; exact ⟨m, by simp⟩
    · rw [beq_no c]
      simp only [cond_false]
      refine ih ?_
      simp at h ⊢
      rcases h with h | h
      · exact absurd h c
      · exact h

def freeC (F : List Nat) (c : List Carry) : Bool := (boxesC c).all fun i => !F.contains i

def Loop {σ : Type} (body : (σ → Heap → Prop) → σ → Heap → Prop) (s : σ) (h : Heap) : Prop :=
  ∃ (I : σ → Heap → Prop) (μ : σ → Heap → Nat), I s h ∧ ∀ s h, I s h → body (fun s' h' => I s' h' ∧ μ s' h' < μ s h) s h

def addrOk : List (Nat × Nat × Nat) → Slots → Bool
  | [], _ => true
  | (t, i, o) :: r, ρ => (match ρ t with
    | .box i' o' => Nat.beq i' i && Nat.beq o' o
    | _ => false) && addrOk r ρ
def addrS : List (Nat × Nat × Nat) → Slots
  | [] => fun _ => .junk
  | (t, i, o) :: r => putS (addrS r) (some t) (.box i o)
theorem addr_spec {κ : Nat → Nat} {ρ : Slots} {e : Nat → Value} (h : ∀ t, Rl κ (ρ t) (e t)) : ∀ (A : List (Nat × Nat × Nat)), addrOk A ρ = true → ∀ t, Rl κ (addrS A t) (e t)
  | [], _, t => trivial
  | (t', i, o) :: r, ho, t => by
    simp only [addrOk, Bool.and_eq_true] at ho
    simp only [addrS, putS]
    by_cases c : t = t'
    · subst c
      rw [Nat.beq_refl]
      have h1 := h t
      have h2 := ho.1
      split at h2
      · rename_i i' o' hx
        rw [hx] at h1
        simp only [Bool.and_eq_true] at h2
        obtain rfl := Nat.eq_of_beq_eq_true h2.1
        obtain rfl := Nat.eq_of_beq_eq_true h2.2
        exact h1
      · cases h2
    · rw [beq_no c]
      exact addr_spec h r ho.2 t

def interp (P : Program) (n : Nat) : AC → List Nat → Slots → Boxes → Heap → (Slots → Boxes → Heap → Prop) → (Nat → Slots → Boxes → Heap → Prop) → (Slots → Boxes → Heap → Prop) → Prop
  | .reg _ ops hid, F, ρ, β, h, K, _, _ => regI P n false F ops hid (List.range ops.size) ρ β h K
  | .regY _ ops hid, F, ρ, β, h, K, _, _ => regI P n true F ops hid (List.range ops.size) ρ β h K
  | .rf pre _ g p kx asg body x, F, ρ, β, h, _, E, R => interp P n pre F ρ β h (fun ρ β h => match ev ρ g with
      | .v .fn u => bif Nat.blt p n && asg.plain && body.plain && x.plain then
          ∀ (l d : Nat) (L : Bool → Obj), h l = none → h d = none → l ≠ d →
            (∀ (y : Den kx) (h1 : Heap) (K1 : Bool → Heap → Prop), h1 l = some (.raw (L false)) →
              interp P n asg [] (putS (fun t => noBox (ρ t)) (some p) (.v kx y)) [] h1 (fun ρ1 β1 h2 => h2 l = some (.raw (L false)) ∧
                interp P n body [] ρ1 β1 (upd h2 l (.raw (L true))) (fun _ _ h3 => h3 l = some (.raw (L true)) ∧ K1 true (upd h3 l (.raw (L false)))) (fun _ _ _ _ => False) (fun _ _ _ => False)) (fun _ _ _ _ => False) (fun _ _ _ => False) →
              FnY P (.func (.yield l) #[] #[]) [kx.val y] false .bool h1 K1) →
            FnT P u [.func (.yield l) #[] #[]] true .nil (upd (upd h d (.raw (.deferred (some [])))) l (.raw (L false))) (fun _ h2 => h2 l = some (.raw (L false)) ∧ h2 d = some (.raw (.deferred (some []))) ∧
              interp P n x F ρ β (drop2 h2 l d) R (fun _ _ _ _ => False) (fun _ _ _ => False))
        else False
      | _ => False) E R
  | .regD _ ops hid mods steps, F, ρ, β, h, K, _, _ =>
    bif P.follows .mixedOrders && Region.noSelect ops && stepsOk ops (pendOf steps) steps (Array.replicate ops.size false) && Nat.beq (stepsN steps) ops.size && pendOk P n (F ++ (kept [] (mods.map .drop) β).map (·.1)) ops (pendOf steps) then
      regDI P n (F ++ (kept [] (mods.map .drop) β).map (·.1)) ops hid ((kept [] (mods.map .drop) β).map (·.1)) steps [] ρ β h K
    else False
  | .seq a b, F, ρ, β, h, K, E, R => interp P n a F ρ β h (fun ρ β h => interp P n b F ρ β h K E R) E R
  | .seqJ c a b, F, ρ, β, h, K, E, R =>
    bif freeC F c then
      interp P n a (F ++ (kept a.wr c β).map (·.1)) ρ β h (fun ρ1 β1 h1 => match getC c ρ1 β1 with
        | some s => interp P n b F (setC c s (clean a.wr ρ)) (setB c s (kept a.wr c β)) h1 K E R
        | none => False) E R
    else False
  | .seqC c A a b, F, ρ, β, h, K, E, R => interp P n a F ρ β h (fun ρ1 β1 h1 => bif addrOk A ρ1 then (match getC c ρ1 β1 with
      | some s => interp P n b F (setC c s (addrS A)) (setB c s []) h1 K E R
      | none => False) else False) E R
  | .cond c a b, F, ρ, β, h, K, E, R => match ev ρ c with
    | .kb true => interp P n a F ρ β h K E R
    | .kb false => interp P n b F ρ β h K E R
    | .v .bool x => (x = true → interp P n a F ρ β h K E R) ∧ (x = false → interp P n b F ρ β h K E R)
    | _ => False
  | .block id a, F, ρ, β, h, K, E, R => interp P n a F ρ β h K (fun id' => bif Nat.beq id' id then K else E id') R
  | .loop c a, F, ρ, β, h, K, E, R =>
    bif freeC F c then match getC c ρ β with
      | some s0 => Loop (fun again s h => interp P n a (F ++ (kept a.wr c β).map (·.1)) (setC c s (clean a.wr ρ)) (setB c s (kept a.wr c β)) h (fun ρ1 β1 h1 => match getC c ρ1 β1 with
          | some s' => again s' h1
          | none => False) E R) s0 h
      | none => False
    else False
  | .exit id, _, ρ, β, h, _, E, _ => E id ρ β h
  | .ret, _, ρ, β, h, _, _, R => R ρ β h
  | .skip, _, ρ, β, h, K, _, _ => K ρ β h
  | .label _, _, ρ, β, h, K, _, _ => K ρ β h

theorem Rl_id {κ κ' : Nat → Nat} {W : List Nat} (hk : ∀ i, W.contains i = false → κ' i = κ i) {v : TV} {u : Value} (r : Rl κ v u) : Rl κ' (cleanT W v) u := by
  cases v with
  | box i o =>
    cases e : W.contains i
    · simp only [cleanT, e, cond_false, Rl, hk i e]; exact r
    · simp only [cleanT, e, cond_true]; trivial
  | boxi i o n sz ix =>
    cases e : W.contains i
    · simp only [cleanT, e, cond_false, Rl, hk i e]; exact r
    · simp only [cleanT, e, cond_true]; trivial
  | _ => exact r

theorem slots_setC {κ : Nat → Nat} {e : Nat → Value} {ρ1 : Slots} {β1 : Boxes} (h1 : ∀ t, Rl κ (ρ1 t) (e t)) : ∀ (c : List Carry) (s : Den (kdC c)) (ρ : Slots), getC c ρ1 β1 = some s → (∀ t, Rl κ (ρ t) (e t)) → ∀ t, Rl κ (setC c s ρ t) (e t)
  | [], s, ρ, _, h => h
  | .slot t k :: r, s, ρ, hg, h => by
    simp only [getC] at hg
    split at hg
    · rename_i x y hx hy
      cases hg
      intro t'
      simp only [setC, putS]
      by_cases c : t' = t
      · subst c
        rw [Nat.beq_refl]
        exact tvVal_spec hx (h1 t')
      · rw [beq_no c]
        exact slots_setC h1 r y ρ hy h t'
    · cases hg
  | .box i k :: r, s, ρ, hg, h => by
    simp only [getC] at hg
    split at hg
    · split at hg
      · rename_i x y hx hy
        cases hg
        exact slots_setC h1 r y ρ hy h
      · cases hg
    · cases hg
  | .drop i :: r, s, ρ, hg, h => slots_setC h1 r s ρ hg h

theorem boxes_setB {ρ1 : Slots} {β1 β : Boxes} : ∀ (c : List Carry) (s : Den (kdC c)), getC c ρ1 β1 = some s → ∀ i l, look (setB c s β) i = some l →
    ((boxesC c).contains i = true ∧ ∃ l1, look β1 i = some l1 ∧ entCells l1 = entCells l) ∨ look β i = some l
  | [], s, _, i, l, h => .inr h
  | .slot t k :: r, s, hg, i, l, h => by
    simp only [getC] at hg
    split at hg
    · rename_i x y hx hy
      cases hg
      exact boxes_setB r y hy i l h
    · cases hg
  | .box j k :: r, s, hg, i, l, h => by
    simp only [getC] at hg
    split at hg
    · rename_i l1 hl1
      split at hg
      · rename_i x y hx hy
        cases hg
        simp only [setB, look] at h
        by_cases c : i = j
        · subst c
          simp at h
          subst h
          refine .inl ⟨by simp [boxesC], l1, hl1, ?_⟩
          rw [Kd.asm_spec _ _ _ _ hx, Kd.dis_cells]
          simp [entCells]
        · rw [beq_no c] at h
          rcases boxes_setB r y hy i l h with ⟨h1, h2⟩ | h1
          · exact .inl ⟨by simp [boxesC] at h1 ⊢; exact .inr h1, h2⟩
          · exact .inr h1
      · cases hg
    · cases hg
  | .drop j :: r, s, hg, i, l, h => by
    rcases boxes_setB r s hg i l h with ⟨h1, h2⟩ | h1
    · exact .inl ⟨by simp [boxesC] at h1 ⊢; exact .inr h1, h2⟩
    · exact .inr h1

def ZK (Z : Nat → Prop) (κ : Nat → Nat) (β : Boxes) : Nat → Prop := fun b => Z b ∨ ∃ i l, look β i = some l ∧ κ i = b

theorem St.into {D0 h0 w0 n F Z κ ρ β h a w} (s : St D0 h0 w0 n F Z κ ρ β h a w) (W : List Nat) (c : List Carry) : St D0 h0 w0 n (F ++ (kept W c β).map (·.1)) (ZK Z κ (kept W c β)) κ ρ β h a w where
  inv := s.inv
  box := s.box
  inj := s.inj
  z b hb := by
    rcases hb with hb | ⟨i, l, e, rfl⟩
    · exact s.z b hb
    · rw [look_kept] at e
      split at e
      · exact ⟨s.box_lt e, (s.box i l e).2.1⟩
      · cases e
  zf i l e hz := by
    rw [List.contains_append]
    rcases hz with hz | ⟨j, m, e2, hj⟩
    · rw [s.zf i l e hz]; rfl
    · have e3 := e2
      rw [look_kept] at e3
      split at e3
      · have : j = i := s.inj j i m l e3 e hj
        subst this
        rw [look_mem e2, Bool.or_true]
      · cases e3
  size := s.size
  slot := s.slot
  defers := s.defers

theorem St.outOf {D0 h0 w0 n F Z κ ρ β h a w} (s : St D0 h0 w0 n F Z κ ρ β h a w) {W : List Nat} {c : List Carry} {κ1 ρ1 β1 h1 a1 w1}
    (q : St D0 h0 w0 n (F ++ (kept W c β).map (·.1)) (ZK Z κ (kept W c β)) κ1 ρ1 β1 h1 a1 w1) {W' : List Nat} (f : Fr W' (F ++ (kept W c β).map (·.1)) (ZK Z κ (kept W c β)) κ a w κ1 a1 w1) :
    St D0 h0 w0 n F Z κ1 ρ1 β1 h1 a1 w1 where
  inv := q.inv
  box := q.box
  inj := q.inj
  z b hb := q.z b (.inl hb)
  zf i l e hz := by
    have h1 := q.zf i l e (.inl hz)
    rw [List.contains_append, Bool.or_eq_true] at h1
    rcases h1 with h1 | h1
    · exact h1
    · obtain ⟨m, hm⟩ := mem_look h1
      have e1 := f.id i (.inr (by rw [List.contains_append, h1, Bool.or_true]))
      rw [e1] at hz
      have e2 := hm
      rw [look_kept] at e2
      split at e2
      · exact s.zf i m e2 hz
      · cases e2
  size := q.size
  slot := q.slot
  defers := q.defers

theorem Fr.outOf {W F : List Nat} {Z : Nat → Prop} {κ : Nat → Nat} {β : Boxes} {a w κ1 a1 w1} {G : List Nat} (f : Fr W (F ++ G) (ZK Z κ β) κ a w κ1 a1 w1) : Fr W F Z κ a w κ1 a1 w1 :=
  f.mono (fun _ e => e) (fun i e => by rw [List.contains_append, e]; rfl) (fun b e => .inl e)

theorem St.join {D0 h0 w0 n F Z κ ρ β h a w} (s : St D0 h0 w0 n F Z κ ρ β h a w) {W : List Nat} {c : List Carry} (hfree : freeC F c = true) {κ1 ρ1 β1 h1 a1 w1}
    (q : St D0 h0 w0 n (F ++ (kept W c β).map (·.1)) (ZK Z κ (kept W c β)) κ1 ρ1 β1 h1 a1 w1) (f : Fr W (F ++ (kept W c β).map (·.1)) (ZK Z κ (kept W c β)) κ a w κ1 a1 w1)
    {x : Den (kdC c)} (hx : getC c ρ1 β1 = some x) : St D0 h0 w0 n F Z κ1 (setC c x (clean W ρ)) (setB c x (kept W c β)) h1 a1 w1 := by
  have hidk : ∀ i l, look (kept W c β) i = some l → κ1 i = κ i := fun i l e => f.id i (.inr (by rw [List.contains_append, look_mem e, Bool.or_true]))
  have hkl : ∀ i l, look (kept W c β) i = some l → look β i = some l ∧ (boxesC c).contains i = false := by
    intro i l e
    rw [look_kept] at e
    split at e
    · rename_i hc
      simp only [Bool.not_eq_true', Bool.or_eq_false_iff] at hc
      exact ⟨e, hc.2⟩
    · cases e
  have hcf : ∀ i, (boxesC c).contains i = true → ∀ l, look β1 i = some l → ¬ ZK Z κ (kept W c β) (κ1 i) := by
    intro i hi l e hz
    have h1 := q.zf i l e hz
    rw [List.contains_append, Bool.or_eq_true] at h1
    rcases h1 with h1 | h1
    · unfold freeC at hfree
      rw [List.all_eq_true] at hfree
      have := hfree i (by simpa using hi)
      rw [h1] at this
      cases this
    · obtain ⟨m, hm⟩ := mem_look h1
      have := (hkl i m hm).2
      rw [this] at hi
      cases hi
  refine ⟨q.inv, fun i l e => ?_, fun i j l m e1 e2 e => ?_, fun b hb => q.z b (.inl hb), fun i l e hz => ?_, q.size, ?_, q.defers⟩
  · rcases boxes_setB c x hx i l e with ⟨_, l1, e1, e2⟩ | e1
    · obtain ⟨⟨t, b1⟩, b2, b3⟩ := q.box i l1 e1
      exact ⟨⟨t, by rw [← e2]; exact b1⟩, b2, b3⟩
    · obtain ⟨⟨t, b1⟩, b2, b3⟩ := s.box i l (hkl i l e1).1
      rw [hidk i l e1]
      exact ⟨⟨t, (f.blk (κ i) (.inr ⟨i, l, e1, rfl⟩)).trans b1⟩, (q.z (κ i) (.inr ⟨i, l, e1, rfl⟩)).2, b3⟩
  · rcases boxes_setB c x hx i l e1 with ⟨c1, l1, g1, _⟩ | g1 <;> rcases boxes_setB c x hx j m e2 with ⟨c2, l2, g2, _⟩ | g2
    · exact q.inj i j l1 l2 g1 g2 e
    · exact absurd (.inr ⟨j, m, g2, by rw [e, hidk j m g2]⟩) (hcf i c1 l1 g1)
    · exact absurd (.inr ⟨i, l, g1, by rw [← e, hidk i l g1]⟩) (hcf j c2 l2 g2)
    · rw [hidk i l g1, hidk j m g2] at e
      exact s.inj i j l m (hkl i l g1).1 (hkl j m g2).1 e
  · rcases boxes_setB c x hx i l e with ⟨c1, l1, g1, _⟩ | g1
    · exact absurd (.inl hz) (hcf i c1 l1 g1)
    · rw [hidk i l g1] at hz
      exact s.zf i l (hkl i l g1).1 hz
  · refine slots_setC q.slot c x (clean W ρ) hx fun t => ?_
    unfold clean
    cases e : W.contains t
    · simp only [cond_false]
      rw [f.slot t e]
      exact Rl_id (fun i hi => f.id i (.inl hi)) (s.slot t)
    · trivial

def RetD (D0 D' : List Deferred) (w0 : World) (h' : Heap) (w' : World) : Prop := D' = D0 ∨ (D0 = [] ∧ ∃ r, D' = [{ target := .collected r, args := #[] }] ∧ w'.heap[r]? = some (.deferred (some [])) ∧ w0.heap.size ≤ r ∧ h' r = none)
def Good (r : Option Nat) (P : Program) (D0 : List Deferred) (h0 : Heap) (w0 : World) (n : Nat) (c : Code) (W F : List Nat) (Z : Nat → Prop) (κ : Nat → Nat) (a : Act) (w : World)
    (K : Slots → Boxes → Heap → Prop) (E : Nat → Slots → Boxes → Heap → Prop) (R : Slots → Boxes → Heap → Prop) : Prop :=
  c.wpIn (FR r) 0 P (fun e a' w' => match e with
    | .normal => CodePost D0 h0 w0 n W F Z κ a w K a' w'
    | .exit id => CodePost D0 h0 w0 n W F Z κ a w (E id) a' w'
    | .ret => ∃ D' κ' ρ' β' h' F' Z', RetD D0 D' w0 h' w' ∧ St D' h0 w0 n F' Z' κ' ρ' β' h' a' w' ∧ R ρ' β' h'
    | _ => False) a w

theorem cappL {t : Nat} {A B : List Nat} (h : (A ++ B).contains t = false) : A.contains t = false := by
  rw [List.contains_append, Bool.or_eq_false_iff] at h; exact h.1
theorem cappR {t : Nat} {A B : List Nat} (h : (A ++ B).contains t = false) : B.contains t = false := by
  rw [List.contains_append, Bool.or_eq_false_iff] at h; exact h.2

theorem Good.weak {r : Option Nat} {P : Program} {D0 : List Deferred} {h0 : Heap} {w0 : World} {n : Nat} {c : Code} {W W' F : List Nat} {Z : Nat → Prop} {κ : Nat → Nat} {a : Act} {w : World}
    {K : Slots → Boxes → Heap → Prop} {E : Nat → Slots → Boxes → Heap → Prop} {R : Slots → Boxes → Heap → Prop} (g : Good r P D0 h0 w0 n c W F Z κ a w K E R) (hW : ∀ t, W'.contains t = false → W.contains t = false) :
    Good r P D0 h0 w0 n c W' F Z κ a w K E R := by
  refine wpIn_mono g fun e a' w' hp => ?_
  cases e with
  | normal => obtain ⟨κ2, ρ2, β2, h2, p1, p2, p3⟩ := hp; exact ⟨κ2, ρ2, β2, h2, p1, p2.mono hW (fun _ e => e) (fun _ e => e), p3⟩
  | exit id => obtain ⟨κ2, ρ2, β2, h2, p1, p2, p3⟩ := hp; exact ⟨κ2, ρ2, β2, h2, p1, p2.mono hW (fun _ e => e) (fun _ e => e), p3⟩
  | ret => exact hp
  | _ => exact hp.elim

section
variable {P : Program} {h0 : Heap} {w0 : World} {n : Nat} {F : List Nat} {Z : Nat → Prop} {κ : Nat → Nat} {a : Act} {w : World} {E : Nat → Slots → Boxes → Heap → Prop} {R : Slots → Boxes → Heap → Prop}
  {id : Nat} {g : Operand} {p : Nat} {kx : Kd} {pre asg body x : AC}
theorem rf_sound {K : Slots → Boxes → Heap → Prop}
    (hpre : Good none P [] h0 w0 n pre.code pre.wr F Z κ a w (fun ρ β h => match ev ρ g with
      | .v .fn u => bif Nat.blt p n && asg.plain && body.plain && x.plain then
          ∀ (l d : Nat) (L : Bool → Obj), h l = none → h d = none → l ≠ d →
            (∀ (y : Den kx) (h1 : Heap) (K1 : Bool → Heap → Prop), h1 l = some (.raw (L false)) →
              interp P n asg [] (putS (fun t => noBox (ρ t)) (some p) (.v kx y)) [] h1 (fun ρ1 β1 h2 => h2 l = some (.raw (L false)) ∧
                interp P n body [] ρ1 β1 (upd h2 l (.raw (L true))) (fun _ _ h3 => h3 l = some (.raw (L true)) ∧ K1 true (upd h3 l (.raw (L false)))) (fun _ _ _ _ => False) (fun _ _ _ => False)) (fun _ _ _ _ => False) (fun _ _ _ => False) →
              FnY P (.func (.yield l) #[] #[]) [kx.val y] false .bool h1 K1) →
            FnT P u [.func (.yield l) #[] #[]] true .nil (upd (upd h d (.raw (.deferred (some [])))) l (.raw (L false))) (fun _ h2 => h2 l = some (.raw (L false)) ∧ h2 d = some (.raw (.deferred (some []))) ∧
              interp P n x F ρ β (drop2 h2 l d) R (fun _ _ _ _ => False) (fun _ _ _ => False))
        else False
      | _ => False) E R)
    (sA : asg.plain = true → ∀ {l : Nat} {h1 : Heap} {w1 : World} {κ ρ β h a w K E R}, St [] h1 w1 n [] (fun _ => False) κ ρ β h a w → interp P n asg [] ρ β h K E R → Good (some l) P [] h1 w1 n asg.code asg.wr [] (fun _ => False) κ a w K E R)
    (sB : body.plain = true → ∀ {l : Nat} {h1 : Heap} {w1 : World} {κ ρ β h a w K E R}, St [] h1 w1 n [] (fun _ => False) κ ρ β h a w → interp P n body [] ρ β h K E R → Good (some l) P [] h1 w1 n body.code body.wr [] (fun _ => False) κ a w K E R)
    (sX : x.plain = true → ∀ {D0 F Z κ ρ β h a w K E R}, St D0 h0 w0 n F Z κ ρ β h a w → interp P n x F ρ β h K E R → Good none P D0 h0 w0 n x.code x.wr F Z κ a w K E R) :
    Good none P [] h0 w0 n (AC.rf pre id g p kx asg body x).code pre.wr F Z κ a w K E R := by
  refine wpIn_seq (wpIn_seq (wpIn_mono hpre fun e a1 w1 hp => ?_))
  cases e with
  | exit id' => exact hp
  | ret => exact hp
  | normal =>
    obtain ⟨κ1, ρ1, β1, h1, s1, f1, hm⟩ := hp
    split at hm
    · rename_i u hu
      cases hc : (Nat.blt p n && asg.plain && body.plain && x.plain)
      · rw [hc] at hm; exact hm.elim
      rw [hc] at hm
      simp only [cond_true] at hm
      simp only [Bool.and_eq_true] at hc
      obtain ⟨⟨⟨hpn, hasg⟩, hbody⟩, hx⟩ := hc
      have hpn : p < n := Nat.le_of_ble_eq_true hpn
      refine wpIn_block (wpIn_rangeFunc fun fn _ => ?_)
      have hg := s1.evOk.ev g
      rw [hu] at hg
      have hg : a1.eval g = u := hg
      have nl : ∀ b, w1.heap.size ≤ b → h1 b = none := fun b hb => by
        cases e : h1 b with
        | none => rfl
        | some o => have := s1.inv.sub.lt e; omega
      let L : Bool → Obj := fun b => loopO fn a1.tmps #[p] asg.code body.code w1.heap.size (bif b then .busy else .ready)
      let wE : World := (w1.alloc (.deferred (some []))).alloc (L false)
      have hszD : (w1.alloc (.deferred (some []))).heap.size = w1.heap.size + 1 := size_alloc ..
      have hszE : wE.heap.size = w1.heap.size + 2 := by show ((w1.alloc (.deferred (some []))).alloc (L false)).heap.size = _; rw [size_alloc, hszD]
      have I1 : Inv h1 w1 (upd h1 w1.heap.size (.raw (.deferred (some [])))) (w1.alloc (.deferred (some []))) := (Inv.refl s1.inv.sub).new (o := .deferred (some [])) (x := .raw (.deferred (some []))) rfl
      have I2 : Inv h1 w1 (upd (upd h1 w1.heap.size (.raw (.deferred (some [])))) (w1.heap.size + 1) (.raw (L false))) wE := by
        have := I1.new (o := L false) (x := .raw (L false)) rfl
        rwa [hszD] at this
      have hround : ∀ (y : Den kx) (h1r : Heap) (K1 : Bool → Heap → Prop), h1r (w1.heap.size + 1) = some (.raw (L false)) →
          interp P n asg [] (putS (fun t => noBox (ρ1 t)) (some p) (.v kx y)) [] h1r (fun ρ1 β1 h2 => h2 (w1.heap.size + 1) = some (.raw (L false)) ∧
            interp P n body [] ρ1 β1 (upd h2 (w1.heap.size + 1) (.raw (L true))) (fun _ _ h3 => h3 (w1.heap.size + 1) = some (.raw (L true)) ∧ K1 true (upd h3 (w1.heap.size + 1) (.raw (L false)))) (fun _ _ _ _ => False) (fun _ _ _ => False)) (fun _ _ _ _ => False) (fun _ _ _ => False) →
          FnY P (.func (.yield (w1.heap.size + 1)) #[] #[]) [kx.val y] false .bool h1r K1 := fun y h1r K1 hl hmA => by
        refine .inr fun wr hwr => ⟨w1.heap.size + 1, fn, a1.tmps.setIfInBounds p (kx.val y), asg.code, body.code, yield_run (raw_world hwr hl) _, ?_⟩
        refine roundIn_of_wpIn (F := FR none) trivial ?_
        have st : St [] h1r wr n [] (fun _ => False) κ1 (putS (fun t => noBox (ρ1 t)) (some p) (.v kx y)) [] h1r { tmps := a1.tmps.setIfInBounds p (kx.val y), defers := [] } wr := by
          refine ⟨Inv.refl hwr, fun i l e => (by cases e), fun i j l m e => (by cases e), fun b hb => hb.elim, fun i l e => (by cases e), (by rw [Array.size_setIfInBounds]; exact s1.size), fun t => ?_, rfl⟩
          have := slot_put (κ := κ1) (ρ := fun t => noBox (ρ1 t)) (a := a1) (d := some p) (u := kx.val y) (v := .v kx y) (n := n) (fun t => Rl_noBox (s1.slot t)) s1.size (by show Nat.blt p n = true; exact Nat.ble_eq_true_of_le hpn) rfl t
          exact this
        refine wpIn_mono (sA hasg (l := w1.heap.size + 1) st hmA) fun e a2 w2 hp2 => ?_
        cases e with
        | normal =>
          obtain ⟨κ2, ρ2, β2, h2, s2, f2, hl2, hmB⟩ := hp2
          refine ⟨_, begin_run (raw_world s2.inv.sub hl2), ?_⟩
          have s3 := s2.raw (o' := L true) hl2 rfl rfl
          refine wpIn_mono (sB hbody (l := w1.heap.size + 1) s3 hmB) fun e a3 w3 hp3 => ?_
          cases e with
          | normal =>
            obtain ⟨κ3, ρ3, β3, h3, s4, f4, hl3, hK1⟩ := hp3
            have s5 := s4.raw (o' := L false) hl3 rfl rfl
            exact ⟨_, _, end_run (raw_world s4.inv.sub hl3), _, _, rfl, s5.inv, true, rfl, hK1⟩
          | exit id' => obtain ⟨_, _, _, _, _, _, q⟩ := hp3; exact q.elim
          | ret => obtain ⟨_, _, _, _, _, _, _, _, _, q⟩ := hp3; exact q.elim
          | _ => exact hp3.elim
        | exit id' => obtain ⟨_, _, _, _, _, _, q⟩ := hp2; exact q.elim
        | ret => obtain ⟨_, _, _, _, _, _, _, _, _, q⟩ := hp2; exact q.elim
        | _ => exact hp2.elim
      obtain ⟨f, as, hrun, hcall⟩ := hm (w1.heap.size + 1) w1.heap.size L (nl _ (by omega)) (nl _ (Nat.le_refl _)) (by omega) hround
      obtain ⟨d, hd⟩ := ofValue_run hrun
      refine ⟨w1.heap.size + 1, [{ target := .collected w1.heap.size, args := #[] }], wE, d, wE, f, as.toArray, wE, enter_run, ?_, fun _ _ => trivial, (hd wE).2, fun q => (by cases q), callsIn_FR ((hcall wE I2.sub).mono ?_)⟩
      · have e1 : resolve a1.eval (rangeCall g (w1.heap.size + 1)) 0 = Deferred.ofValue u [Value.func (.yield (w1.heap.size + 1)) #[] #[]].toArray := by
          simp only [resolve, rangeCall]
          rw [hg]
          simp [Act.eval]
        rw [e1]
        exact (hd wE).1
      · rintro e w3 ⟨v, h2, rfl, I3, y, rfl, hl2, hd2, hmx⟩
        refine ⟨none, _, endLoop_run (raw_world I3.sub hl2), ?_⟩
        have I4 : Inv h2 w3 _ _ := raw_inv (o' := loopO fn a1.tmps #[p] asg.code body.code w1.heap.size .exhausted) I3.sub hl2 rfl rfl w3.drawn
        have I5 := (I2.trans I3).trans I4
        have hdr : ∀ b o, drop2 h2 (w1.heap.size + 1) w1.heap.size b = some o → upd h2 (w1.heap.size + 1) (.raw (loopO fn a1.tmps #[p] asg.code body.code w1.heap.size .exhausted)) b = some o := fun b o e => by
          have hne : b ≠ w1.heap.size + 1 := fun q => by rw [q, drop2_l] at e; cases e
          rw [upd_ne _ _ hne]
          exact drop2_le b o e
        have I6 := I5.less hdr
        have hwd : w3.heap[w1.heap.size]? = some (.deferred (some [])) := raw_world I3.sub hd2
        let w4 : World := { w3 with heap := w3.heap.setIfInBounds (w1.heap.size + 1) (loopO fn a1.tmps #[p] asg.code body.code w1.heap.size .exhausted) }
        have hwd4 : w4.heap[w1.heap.size]? = some (.deferred (some [])) := by
          show (w3.heap.setIfInBounds _ _)[w1.heap.size]? = _
          rw [Array.getElem?_setIfInBounds, if_neg (by omega)]; exact hwd
        have s4 : St [{ target := .collected w1.heap.size, args := #[] }] h0 w0 n F (fun b => Z b ∨ b = w1.heap.size) κ1 ρ1 β1 (drop2 h2 (w1.heap.size + 1) w1.heap.size) { a1 with defers := [{ target := .collected w1.heap.size, args := #[] }] ++ a1.defers } w4 := by
          refine ⟨s1.inv.trans I6, fun i l e => ?_, s1.inj, fun b hb => ?_, fun i l e hz => ?_, s1.size, s1.slot, by show _ ++ a1.defers = _; rw [s1.defers]; rfl⟩
          · obtain ⟨⟨t, q1⟩, q2, q3⟩ := s1.box i l e
            obtain ⟨k1, k2⟩ := I6.keep (κ1 i) (s1.box_lt e) q2
            exact ⟨⟨t, k1.trans q1⟩, k2, q3⟩
          · rcases hb with hb | rfl
            · obtain ⟨z1, z2⟩ := s1.z b hb
              exact ⟨Nat.lt_of_lt_of_le z1 I6.size, (I6.keep b z1 z2).2⟩
            · exact ⟨(Array.getElem?_eq_some_iff.1 hwd4).1, drop2_d _ _ _⟩
          · rcases hz with hz | hz
            · exact s1.zf i l e hz
            · have := s1.box_lt e; omega
        refine wpIn_seq (wpIn_mono (sX hx s4 hmx) fun e a5 w5 hp5 => ?_)
        cases e with
        | normal =>
          obtain ⟨κ5, ρ5, β5, h5, s5, f5, hR⟩ := hp5
          have hd5 := (f5.blk w1.heap.size (.inr rfl)).trans hwd4
          exact wpIn_ret ⟨_, κ5, ρ5, β5, h5, F, _, .inr ⟨rfl, w1.heap.size, rfl, hd5, s1.inv.size, (s5.z _ (.inr rfl)).2⟩, s5, hR⟩
        | exit id' => obtain ⟨_, _, _, _, _, _, q⟩ := hp5; exact q.elim
        | ret => obtain ⟨_, _, _, _, _, _, _, _, _, q⟩ := hp5; exact q.elim
        | _ => exact hp5.elim
    · exact hm.elim
  | _ => exact hp.elim
end

theorem interp_sound {r : Option Nat} {P : Program} {D0 : List Deferred} {h0 : Heap} {w0 : World} {n : Nat} : ∀ (c : AC), ((r = none ∧ D0 = []) ∨ c.plain = true) → ∀ {F Z κ ρ β h a w K E R}, St D0 h0 w0 n F Z κ ρ β h a w → interp P n c F ρ β h K E R →
    Good r P D0 h0 w0 n c.code c.wr F Z κ a w K E R
  | .reg id ops hid, hr, F, Z, κ, ρ, β, h, a, w, K, E, R, s, hm => wpIn_region (regI_sound (List.range ops.size) s hm fun a' w' hp => hp)
  | .regY id ops hid, hr, F, Z, κ, ρ, β, h, a, w, K, E, R, s, hm => wpIn_region (regI_sound (List.range ops.size) s hm fun a' w' hp => hp)
  | .rf pre id g p kx asg body x, hr, F, Z, κ, ρ, β, h, a, w, K, E, R, s, hm => by
    rcases hr with ⟨rfl, rfl⟩ | hr
    · exact rf_sound (interp_sound pre (.inl ⟨rfl, rfl⟩) s hm) (fun q1 {_ _ _ _ _ _ _ _ _ _ _ _} q2 q3 => interp_sound asg (.inr q1) q2 q3) (fun q1 {_ _ _ _ _ _ _ _ _ _ _ _} q2 q3 => interp_sound body (.inr q1) q2 q3) (fun q1 {_ _ _ _ _ _ _ _ _ _ _ _} q2 q3 => interp_sound x (.inr q1) q2 q3)
    · cases hr
  | .regD id ops hid mods steps, hr, F, Z, κ, ρ, β, h, a, w, K, E, R, s, hm => by
    simp only [interp] at hm
    cases hc : (P.follows .mixedOrders && Region.noSelect ops && stepsOk ops (pendOf steps) steps (Array.replicate ops.size false) && Nat.beq (stepsN steps) ops.size && pendOk P n (F ++ (kept [] (mods.map .drop) β).map (·.1)) ops (pendOf steps))
    · rw [hc] at hm; exact hm.elim
    · rw [hc] at hm
      simp only [cond_true] at hm
      simp only [Bool.and_eq_true] at hc
      obtain ⟨⟨⟨⟨c1, c2⟩, c3⟩, c4⟩, c5⟩ := hc
      have c4 := Nat.eq_of_beq_eq_true c4
      have sd : St D0 h0 w0 n F Z κ ρ β h a { w with drawn := w.drawn + 1 } := ⟨s.inv.drew _, s.box, s.inj, s.z, s.zf, s.size, s.slot, s.defers⟩
      have si := sd.into [] (mods.map Carry.drop)
      have hpk : ∀ j, ((kept [] (mods.map Carry.drop) β).map (·.1)).contains j = true → ZK Z κ (kept [] (mods.map Carry.drop) β) (κ j) := by
        intro j hj
        obtain ⟨l, hl⟩ := mem_look hj
        exact .inr ⟨j, l, hl, rfl⟩
      obtain ⟨rfl, rfl⟩ : r = none ∧ D0 = [] := hr.resolve_right fun q => by cases q
      refine wpIn_wide.2 (wp_region_F c1 ?_)
      rw [← c4] at c3 ⊢
      refine regDI_sound (ws := []) hpk c2 (fun c a w hq => hq) _ steps c5 rfl si Fr.refl (fun _ h => by cases h) c3 hm fun a' w' hp => ?_
      obtain ⟨κ2, ρ2, β2, h2, p1, p2, p3⟩ := hp
      exact ⟨κ2, ρ2, β2, h2, sd.outOf p1 p2, ⟨fun t ht => p2.slot t ht, fun i hi => p2.outOf.id i hi, fun b hb => p2.blk b (.inl hb)⟩, p3⟩
  | .seq x y, hr, F, Z, κ, ρ, β, h, a, w, K, E, R, s, hm => by
    have hrx : (r = none ∧ D0 = []) ∨ x.plain = true := hr.imp id fun q => (Bool.and_eq_true_iff.1 q).1
    have hry : (r = none ∧ D0 = []) ∨ y.plain = true := hr.imp id fun q => (Bool.and_eq_true_iff.1 q).2
    refine wpIn_seq (wpIn_mono (interp_sound x hrx s hm) fun e a' w' hp => ?_)
    cases e with
    | normal =>
      obtain ⟨κ1, ρ1, β1, h1, q1, q2, q3⟩ := hp
      refine wpIn_mono (interp_sound y hry q1 q3) fun e a2 w2 hp2 => ?_
      have q2' : Fr (AC.seq x y).wr F Z κ a w κ1 a' w' := q2.mono (fun t => cappL) (fun _ e => e) (fun _ e => e)
      cases e with
      | normal => obtain ⟨κ2, ρ2, β2, h2, p1, p2, p3⟩ := hp2; exact ⟨κ2, ρ2, β2, h2, p1, q2'.trans (p2.mono (fun t => cappR) (fun _ e => e) (fun _ e => e)), p3⟩
      | exit id => obtain ⟨κ2, ρ2, β2, h2, p1, p2, p3⟩ := hp2; exact ⟨κ2, ρ2, β2, h2, p1, q2'.trans (p2.mono (fun t => cappR) (fun _ e => e) (fun _ e => e)), p3⟩
      | ret => exact hp2
      | _ => exact hp2.elim
    | exit id => obtain ⟨κ2, ρ2, β2, h2, p1, p2, p3⟩ := hp; exact ⟨κ2, ρ2, β2, h2, p1, p2.mono (fun t => cappL) (fun _ e => e) (fun _ e => e), p3⟩
    | ret => exact hp
    | _ => exact hp.elim
  | .seqJ c x y, hr, F, Z, κ, ρ, β, h, a, w, K, E, R, s, hm => by
    have hrx : (r = none ∧ D0 = []) ∨ x.plain = true := hr.imp id fun q => (Bool.and_eq_true_iff.1 q).1
    have hry : (r = none ∧ D0 = []) ∨ y.plain = true := hr.imp id fun q => (Bool.and_eq_true_iff.1 q).2
    simp only [interp] at hm
    cases hfree : freeC F c
    · rw [hfree] at hm; exact hm.elim
    · rw [hfree] at hm
      simp only [cond_true] at hm
      refine wpIn_seq (wpIn_mono (interp_sound x hrx (s.into x.wr c) hm) fun e a' w' hp => ?_)
      cases e with
      | normal =>
        obtain ⟨κ1, ρ1, β1, h1, q1, q2, q3⟩ := hp
        split at q3
        · rename_i v hv
          have q1' := s.join hfree q1 q2 hv
          refine wpIn_mono (interp_sound y hry q1' q3) fun e a2 w2 hp2 => ?_
          have q2' : Fr (AC.seqJ c x y).wr F Z κ a w κ1 a' w' := q2.outOf.mono (fun t => cappL) (fun _ e => e) (fun _ e => e)
          cases e with
          | normal => obtain ⟨κ2, ρ2, β2, h2, p1, p2, p3⟩ := hp2; exact ⟨κ2, ρ2, β2, h2, p1, q2'.trans (p2.mono (fun t => cappR) (fun _ e => e) (fun _ e => e)), p3⟩
          | exit id => obtain ⟨κ2, ρ2, β2, h2, p1, p2, p3⟩ := hp2; exact ⟨κ2, ρ2, β2, h2, p1, q2'.trans (p2.mono (fun t => cappR) (fun _ e => e) (fun _ e => e)), p3⟩
          | ret => exact hp2
          | _ => exact hp2.elim
        · exact q3.elim
      | exit id => obtain ⟨κ2, ρ2, β2, h2, p1, p2, p3⟩ := hp; exact ⟨κ2, ρ2, β2, h2, s.outOf p1 p2, p2.outOf.mono (fun t => cappL) (fun _ e => e) (fun _ e => e), p3⟩
      | ret => exact hp
      | _ => exact hp.elim
  | .seqC c A x y, hr, F, Z, κ, ρ, β, h, a, w, K, E, R, s, hm => by
    have hrx : (r = none ∧ D0 = []) ∨ x.plain = true := hr.imp id fun q => (Bool.and_eq_true_iff.1 q).1
    have hry : (r = none ∧ D0 = []) ∨ y.plain = true := hr.imp id fun q => (Bool.and_eq_true_iff.1 q).2
    simp only [interp] at hm
    refine wpIn_seq (wpIn_mono (interp_sound x hrx s hm) fun e a' w' hp => ?_)
    cases e with
    | normal =>
      obtain ⟨κ1, ρ1, β1, h1, q1, q2, q3⟩ := hp
      cases hA : addrOk A ρ1
      · rw [hA] at q3; exact q3.elim
      · rw [hA] at q3
        simp only [cond_true] at q3
        split at q3
        · rename_i v hv
          have q1' : St D0 h0 w0 n F Z κ1 (setC c v (addrS A)) (setB c v []) h1 a' w' := by
            have old : ∀ i l, look (setB c v []) i = some l → ∃ l1, look β1 i = some l1 ∧ entCells l1 = entCells l := fun i l e => by
              rcases boxes_setB c v hv i l e with ⟨_, q⟩ | q
              · exact q
              · cases q
            refine ⟨q1.inv, fun i l e => ?_, fun i j l m e1 e2 => ?_, q1.z, fun i l e hz => ?_, q1.size, slots_setC q1.slot c v _ hv (addr_spec q1.slot A hA), q1.defers⟩
            · obtain ⟨l1, g1, g2⟩ := old i l e
              have := q1.box i l1 g1
              rw [g2] at this; exact this
            · obtain ⟨l1, g1, _⟩ := old i l e1
              obtain ⟨m1, g2, _⟩ := old j m e2
              exact q1.inj i j l1 m1 g1 g2
            · obtain ⟨l1, g1, _⟩ := old i l e
              exact q1.zf i l1 g1 hz
          refine wpIn_mono (interp_sound y hry q1' q3) fun e a2 w2 hp2 => ?_
          have q2' : Fr (AC.seqC c A x y).wr F Z κ a w κ1 a' w' := q2.mono (fun t => cappL) (fun _ e => e) (fun _ e => e)
          cases e with
          | normal => obtain ⟨κ2, ρ2, β2, h2, p1, p2, p3⟩ := hp2; exact ⟨κ2, ρ2, β2, h2, p1, q2'.trans (p2.mono (fun t => cappR) (fun _ e => e) (fun _ e => e)), p3⟩
          | exit id => obtain ⟨κ2, ρ2, β2, h2, p1, p2, p3⟩ := hp2; exact ⟨κ2, ρ2, β2, h2, p1, q2'.trans (p2.mono (fun t => cappR) (fun _ e => e) (fun _ e => e)), p3⟩
          | ret => exact hp2
          | _ => exact hp2.elim
        · exact q3.elim
    | exit id => obtain ⟨κ2, ρ2, β2, h2, p1, p2, p3⟩ := hp; exact ⟨κ2, ρ2, β2, h2, p1, p2.mono (fun t => cappL) (fun _ e => e) (fun _ e => e), p3⟩
    | ret => exact hp
    | _ => exact hp.elim
  | .cond c x y, hr, F, Z, κ, ρ, β, h, a, w, K, E, R, s, hm => by
    have hrx : (r = none ∧ D0 = []) ∨ x.plain = true := hr.imp id fun q => (Bool.and_eq_true_iff.1 q).1
    have hry : (r = none ∧ D0 = []) ∨ y.plain = true := hr.imp id fun q => (Bool.and_eq_true_iff.1 q).2
    have hc := s.evOk.ev c
    simp only [interp] at hm
    split at hm
    · rename_i e; rw [e] at hc
      exact wpIn_cond_true hc ((interp_sound x hrx s hm).weak (fun t => cappL))
    · rename_i e; rw [e] at hc
      exact wpIn_cond_false hc ((interp_sound y hry s hm).weak (fun t => cappR))
    · rename_i v e; rw [e] at hc
      exact wpIn_cond_split hc (fun ht => (interp_sound x hrx s (hm.1 ht)).weak (fun t => cappL)) (fun hf => (interp_sound y hry s (hm.2 hf)).weak (fun t => cappR))
    · exact hm.elim
  | .block id x, hr, F, Z, κ, ρ, β, h, a, w, K, E, R, s, hm => by
    have hrx : (r = none ∧ D0 = []) ∨ x.plain = true := hr
    refine wpIn_block (wpIn_mono (interp_sound x hrx s hm) fun e a' w' hp => ?_)
    cases e with
    | normal => exact hp
    | exit id' =>
      simp only [Exit.inBlock]
      by_cases c : id' = id
      · subst c
        simp only [if_true]
        dsimp only at hp
        rw [Nat.beq_refl] at hp
        exact hp
      · rw [if_neg c]
        dsimp only at hp
        rw [beq_no c] at hp
        exact hp
    | ret => exact hp
    | _ => exact hp.elim
  | .loop c x, hr, F, Z, κ, ρ, β, h, a, w, K, E, R, s, hm => by
    simp only [interp] at hm
    cases hfree : freeC F c
    · rw [hfree] at hm; exact hm.elim
    · rw [hfree] at hm
      simp only [cond_true] at hm
      split at hm
      · rename_i s0 hs0
        obtain ⟨I, μ, hI, hround⟩ := hm
        let F' := F ++ (kept x.wr c β).map (·.1)
        let Z' := ZK Z κ (kept x.wr c β)
        let Inn : Act → World → (Den (kdC c)) → Heap → Prop := fun a1 w1 v h1 => I v h1 ∧ ∃ κ1, St D0 h0 w0 n F Z κ1 (setC c v (clean x.wr ρ)) (setB c v (kept x.wr c β)) h1 a1 w1 ∧
          (∃ ρ1 β1, St D0 h0 w0 n F' Z' κ1 ρ1 β1 h1 a1 w1 ∧ getC c ρ1 β1 = some v) ∧ Fr x.wr F' Z' κ a w κ1 a1 w1
        have start : Inn a w s0 h := ⟨hI, κ, s.join hfree (s.into x.wr c) Fr.refl hs0, ⟨ρ, β, s.into x.wr c, hs0⟩, Fr.refl⟩
        have key : ∀ m : Nat, ∀ a1 w1 v h1, Inn a1 w1 v h1 → True := fun _ _ _ _ _ _ => trivial
        refine wpIn_loop (fun a1 w1 => ∃ v h1, Inn a1 w1 v h1) (fun a1 w1 => (Classical.epsilon fun m : Nat => ∃ v h1, Inn a1 w1 v h1 ∧ m = μ v h1 ∧ ∀ v' h1', Inn a1 w1 v' h1' → m ≤ μ v' h1')) ⟨s0, h, start⟩ ?_
        intro a1 w1 hex
        have hleast : ∃ m : Nat, ∃ v h1, Inn a1 w1 v h1 ∧ m = μ v h1 ∧ ∀ v' h1', Inn a1 w1 v' h1' → m ≤ μ v' h1' := by
          obtain ⟨v, h1, hi⟩ := hex
          have : ∀ m v h1, Inn a1 w1 v h1 → m = μ v h1 → ∃ m : Nat, ∃ v h1, Inn a1 w1 v h1 ∧ m = μ v h1 ∧ ∀ v' h1', Inn a1 w1 v' h1' → m ≤ μ v' h1' := by
            intro m
            induction m using Nat.strongRecOn with
            | _ m ih =>
              intro v h1 hi hm
              by_cases c : ∀ v' h1', Inn a1 w1 v' h1' → m ≤ μ v' h1'
              · exact ⟨m, v, h1, hi, hm, c⟩
              · simp only [Classical.not_forall, Nat.not_le] at c
                obtain ⟨v', h1', hi', hlt⟩ := c
                exact ih _ hlt v' h1' hi' rfl
          exact this _ v h1 hi rfl
        have hspec := Classical.epsilon_spec (p := fun m : Nat => ∃ v h1, Inn a1 w1 v h1 ∧ m = μ v h1 ∧ ∀ v' h1', Inn a1 w1 v' h1' → m ≤ μ v' h1') hleast
        obtain ⟨v, h1, hi, hmu, hmin⟩ := hspec
        obtain ⟨hIv, κ1, q0, ⟨ρz, βz, qz, hz⟩, qf⟩ := hi
        have hbody := hround v h1 hIv
        have q0' : St D0 h0 w0 n F' Z' κ1 (setC c v (clean x.wr ρ)) (setB c v (kept x.wr c β)) h1 a1 w1 := by
          refine ⟨q0.inv, q0.box, q0.inj, qz.z, fun i l e hzz => ?_, q0.size, q0.slot, q0.defers⟩
          rcases boxes_setB c v hz i l e with ⟨_, l1, g1, _⟩ | g1
          · exact qz.zf i l1 g1 hzz
          · show (F ++ (kept x.wr c β).map (·.1)).contains i = true
            rw [List.contains_append, look_mem g1, Bool.or_true]
        refine wpIn_mono (interp_sound x hr q0' hbody) fun e a2 w2 hp => ?_
        cases e with
        | normal =>
          obtain ⟨κ2, ρ2, β2, h2, p1, p2, p3⟩ := hp
          split at p3
          · rename_i v2 hv2
            have hfr : Fr x.wr F' Z' κ a w κ2 a2 w2 := qf.trans p2
            have hin2 : Inn a2 w2 v2 h2 := ⟨p3.1, κ2, s.join hfree p1 hfr hv2, ⟨ρ2, β2, p1, hv2⟩, hfr⟩
            refine ⟨⟨v2, h2, hin2⟩, ?_⟩
            have hleast2 : ∃ m : Nat, ∃ v h1, Inn a2 w2 v h1 ∧ m = μ v h1 ∧ ∀ v' h1', Inn a2 w2 v' h1' → m ≤ μ v' h1' := by
              have : ∀ m v h1, Inn a2 w2 v h1 → m = μ v h1 → ∃ m : Nat, ∃ v h1, Inn a2 w2 v h1 ∧ m = μ v h1 ∧ ∀ v' h1', Inn a2 w2 v' h1' → m ≤ μ v' h1' := by
                intro m
                induction m using Nat.strongRecOn with
                | _ m ih =>
                  intro v h1 hi hm
                  by_cases c : ∀ v' h1', Inn a2 w2 v' h1' → m ≤ μ v' h1'
                  · exact ⟨m, v, h1, hi, hm, c⟩
                  · simp only [Classical.not_forall, Nat.not_le] at c
                    obtain ⟨v', h1', hi', hlt⟩ := c
                    exact ih _ hlt v' h1' hi' rfl
              exact this _ v2 h2 hin2 rfl
            obtain ⟨v3, h3, hi3, hmu3, hmin3⟩ := Classical.epsilon_spec (p := fun m : Nat => ∃ v h1, Inn a2 w2 v h1 ∧ m = μ v h1 ∧ ∀ v' h1', Inn a2 w2 v' h1' → m ≤ μ v' h1') hleast2
            have := hmin3 v2 h2 hin2
            have := p3.2
            omega
          · exact p3.elim
        | exit id => obtain ⟨κ2, ρ2, β2, h2, p1, p2, p3⟩ := hp; exact ⟨κ2, ρ2, β2, h2, s.outOf p1 (qf.trans p2), (qf.trans p2).outOf, p3⟩
        | ret => exact hp
        | _ => exact hp.elim
      · exact hm.elim
  | .exit id, hr, F, Z, κ, ρ, β, h, a, w, K, E, R, s, hm => wpIn_exit ⟨κ, ρ, β, h, s, Fr.refl, hm⟩
  | .ret, hr, F, Z, κ, ρ, β, h, a, w, K, E, R, s, hm => wpIn_ret ⟨D0, κ, ρ, β, h, F, Z, .inl rfl, s, hm⟩
  | .skip, hr, F, Z, κ, ρ, β, h, a, w, K, E, R, s, hm => wpIn_skip ⟨κ, ρ, β, h, s, Fr.refl, hm⟩
  | .label l, hr, F, Z, κ, ρ, β, h, a, w, K, E, R, s, hm => wpIn_label ⟨κ, ρ, β, h, s, Fr.refl, hm⟩

end Go.Mx

namespace Go.Mx

def Ent.val (e : Ent) : Value := e.k.val e.x
def rho0 (l : List Ent) : Slots := fun t => match l[t]? with
  | some e => .v e.k e.x
  | none => .junk

def resOne (P : Program) (r : ResultVar) (k : Kd) (ρ : Slots) (β : Boxes) : Option (Den k) :=
  match r with
  | .tmp t => tvVal k (ρ t)
  | .cell a T => match ρ a with
    | .box i off => if kdOf P D T = some k then (match look β i with
      | some l => getBox k l off
      | none => none) else none
    | _ => none
def resAll (P : Program) : List ResultVar → (k : Kd) → Slots → Boxes → Option (Den k)
  | [], .nil, _, _ => some ()
  | r :: rs, .pair a b, ρ, β => match resOne P r a ρ β, resAll P rs b ρ β with
    | some x, some y => some (x, y)
    | _, _ => none
  | _, _, _, _ => none
def retV (P : Program) (rs : List ResultVar) (tp : Bool) (k : Kd) (ρ : Slots) (β : Boxes) : Option (Den k) :=
  bif tp then resAll P rs k ρ β else match rs with
    | [r] => resOne P r k ρ β
    | _ => none
def retK (P : Program) (rs : List ResultVar) (tp : Bool) (k : Kd) (Q : Den k → Heap → Prop) (ρ : Slots) (β : Boxes) (h : Heap) : Prop :=
  match retV P rs tp k ρ β with
  | some x => Q x h
  | none => False

def res1 (tmps : Array Value) : ResultVar → Sem Value
  | .tmp t => pure (tmps.getD t undef)
  | .cell a t => do loadVar t (← asAddr (tmps.getD a undef))

theorem resOne_run {P : Program} {D0 h0 w0 n F Z κ ρ β h a w} (s : St D0 h0 w0 n F Z κ ρ β h a w) {r : ResultVar} {k : Kd} {x : Den k} (hx : resOne P r k ρ β = some x) :
    (res1 a.tmps r).run P w = .ok (k.val x) w := by
  cases r with
  | tmp t =>
    simp only [resOne] at hx
    simp only [res1, Sem.run_pure, tvVal_spec hx (s.slot t)]
  | cell t T =>
    simp only [resOne] at hx
    have hs := s.slot t
    split at hx
    · rename_i i off e
      rw [e] at hs
      split at hx
      · rename_i hk
        split at hx
        · rename_i l hl
          obtain ⟨p, q, hp, hlen⟩ := getBox_spec hx
          obtain ⟨⟨t', hb⟩, _, _⟩ := s.box i l hl
          simp only [res1, show a.tmps.getD t undef = .pointer (some ⟨κ i, off, none⟩) from hs, Sem.run_bind, asAddr, Sem.run_pure, Result.andThen_ok]
          exact run_loadVar hk (fun j v e => box_cells hb hp hlen j v e)
        · cases hx
      · cases hx
    · cases hx

theorem resAll_run {P : Program} {D0 h0 w0 n F Z κ ρ β h a w} (s : St D0 h0 w0 n F Z κ ρ β h a w) : ∀ (rs : List ResultVar) (k : Kd) (x : Den k), resAll P rs k ρ β = some x →
    (rs.mapM (res1 a.tmps)).run P w = .ok (k.comps x) w ∧ (k.comps x).length = rs.length
  | [], .nil, x, h => ⟨rfl, rfl⟩
  | r :: rs, .pair k1 k2, x, h => by
    simp only [resAll] at h
    split at h
    · rename_i y z hy hz
      cases h
      obtain ⟨h1, h2⟩ := resAll_run s rs k2 z hz
      refine ⟨?_, by simp [Kd.comps, h2]⟩
      simp only [List.mapM_cons, Sem.run_bind, resOne_run s hy, Result.andThen_ok, h1, Sem.run_pure, Kd.comps]
    · cases h

theorem results_run {P : Program} {fn : Func} {rs : List ResultVar} (hrs : fn.results = rs.toArray) {tp : Bool} (htp : (bif tp then !(Nat.beq rs.length 1) else true) = true) {k : Kd}
    {D0 h0 w0 n F Z κ ρ β h a w} (s : St D0 h0 w0 n F Z κ ρ β h a w) {x : Den k} (hx : retV P rs tp k ρ β = some x) : (results fn a.tmps).run P w = .ok (resV tp k x) w := by
  have hmap : ∀ (g : ResultVar → Sem Value), fn.results.mapM g = Array.mk <$> rs.mapM g := by
    intro g; rw [hrs, Array.mapM_eq_mapM_toList]
  have hres : results fn a.tmps = (do let vs ← fn.results.mapM (res1 a.tmps); pure (if h : vs.size = 1 then vs[0] else .tuple vs)) := rfl
  rw [hres, hmap]
  cases tp
  · simp only [retV, cond_false] at hx
    split at hx
    · rename_i r
      have := resOne_run s hx
      simp only [List.mapM_cons, List.mapM_nil, Sem.run_bind, Sem.run_map, this, Result.andThen_ok, Sem.run_pure, resV, cond_false]
      rfl
    · cases hx
  · simp only [retV, cond_true] at hx
    obtain ⟨h1, h2⟩ := resAll_run s rs k x hx
    simp only [Sem.run_bind, Sem.run_map, h1, Result.andThen_ok, Sem.run_pure, resV, cond_true]
    have hne : ¬ ((Array.mk (k.comps x)).size = 1) := by
      simp only [cond_true, Bool.not_eq_true'] at htp
      intro e
      have : rs.length = 1 := by rw [← h2]; exact e
      rw [this] at htp; cases htp
    rw [dif_neg hne]

theorem fn_sound {P : Program} {f : FuncId} {fn : Func} {c : AC} {n : Nat} (hf : P.funcs[f]? = some fn) (hb : fn.body = some c.code) (hn : fn.ntmps = n) {rs : List ResultVar} (hrs : fn.results = rs.toArray)
    (l : List Ent) (hl : Nat.ble l.length n = true) {tp : Bool} (htp : (bif tp then !(Nat.beq rs.length 1) else true) = true) {k : Kd} {h : Heap} {Q : Den k → Heap → Prop}
    (H : interp P n c [] (rho0 l) [] h (retK P rs tp k Q) (fun _ _ _ _ => False) (retK P rs tp k Q)) : CallT P f (l.map Ent.val) tp k h Q := by
  intro w hw
  have hl := Nat.le_of_ble_eq_true hl
  have st0 : St [] h w n [] (fun _ => False) (fun _ => 0) (rho0 l) [] h { tmps := (l.map Ent.val).toArray ++ Array.replicate (fn.ntmps - (l.map Ent.val).toArray.size) undef, defers := [] } w := by
    refine ⟨Inv.refl hw, fun i l e => ?_, fun i j l m e => ?_, fun b hb => hb.elim, fun i l e => ?_, ?_, fun t => ?_, rfl⟩
    · cases e
    · cases e
    · cases e
    · simp [hn]; omega
    · unfold rho0
      split
      · rename_i e he
        have hlt := (List.getElem?_eq_some_iff.1 he).1
        rw [Array.getD_eq_getD_getElem?, Array.getElem?_append_left (by simpa using hlt)]
        simp [he, Rl, Ent.val]
      · trivial
  refine callsIn_wide.1 (callsIn_of_wp_marks (F := FR none) (n := 0) hf hb trivial (wpIn_mono (interp_sound c (.inl ⟨rfl, rfl⟩) st0 H) fun e a' w' hp => ?_))
  have fin : ∀ {κ' ρ' β' h' F' Z'} {D' : List Deferred}, RetD [] D' w h' w' → St D' h w n F' Z' κ' ρ' β' h' a' w' → retK P rs tp k Q ρ' β' h' → LeavesInM (FR none) 0 P fn a'.tmps (fun e w'' => ∃ v h', e = .returned v ∧ Inv h w h' w'' ∧ ∃ x : Den k, v = resV tp k x ∧ Q x h') a'.defers .returning w' := fun {κ' ρ' β' h' F' Z' D'} hD q1 q3 => by
    unfold retK at q3
    split at q3
    · rename_i x hx
      rcases hD with rfl | ⟨_, r, rfl, hr, hlt, hn⟩
      · rw [q1.defers]
        exact ⟨_, results_run hrs htp q1 hx, _, h', rfl, q1.inv, x, rfl, q3⟩
      · rw [q1.defers]
        refine ⟨fun q => (by cases q), .inl ⟨r, _, rfl, take_run hr, ?_⟩⟩
        have hne : ∀ b, b ≠ r → (w'.heap.setIfInBounds r (Obj.deferred none))[b]? = w'.heap[b]? := fun b hb => by rw [Array.getElem?_setIfInBounds, if_neg (fun q => hb q.symm)]
        have I : Inv h w h' { w' with heap := w'.heap.setIfInBounds r (.deferred none) } := by
          refine ⟨fun b o e => ?_, by show _ ≤ (w'.heap.setIfInBounds _ _).size; rw [Array.size_setIfInBounds]; exact q1.inv.size, fun b hb e => ?_, fun b hb => ?_, q1.inv.os, q1.inv.tape, q1.inv.out⟩
          · obtain ⟨y, hy, hi⟩ := q1.inv.sub b o e
            exact ⟨y, (hne b (fun q => by rw [q, hn] at e; cases e)).trans hy, hi⟩
          · obtain ⟨k1, k2⟩ := q1.inv.keep b hb e
            exact ⟨(hne b (by omega)).trans k1, k2⟩
          · show tagOf (w'.heap.setIfInBounds r (Obj.deferred none))[b]? = _
            rw [hne b (by omega)]; exact q1.inv.tag b hb
        have q2 : St [{ target := .collected r, args := #[] }] h w n F' (fun _ => False) κ' ρ' β' h' a' { w' with heap := w'.heap.setIfInBounds r (.deferred none) } := by
          refine ⟨I, fun i l e => ?_, q1.inj, fun b hb => hb.elim, fun i l e hz => hz.elim, q1.size, q1.slot, q1.defers⟩
          obtain ⟨⟨t, b1⟩, b2, b3⟩ := q1.box i l e
          exact ⟨⟨t, (hne _ (fun q => by rw [q, hr] at b1; cases b1)).trans b1⟩, b2, b3⟩
        exact ⟨_, results_run hrs htp q2 hx, _, h', rfl, I, x, rfl, q3⟩
    · exact q3.elim
  cases e with
  | normal =>
    obtain ⟨κ', ρ', β', h', q1, q2, q3⟩ := hp
    exact fin (.inl rfl) q1 q3
  | exit id => obtain ⟨κ', ρ', β', h', q1, q2, q3⟩ := hp; exact q3.elim
  | ret =>
    obtain ⟨D', κ', ρ', β', h', F', Z', hD, q1, q3⟩ := hp
    exact fin hD q1 q3
  | _ => exact hp.elim

end Go.Mx

namespace Go.Mx

inductive Mk where
  | d
  | r (hid : List Nat)
  | q (hid mods : List Nat) (steps : List Stp)
  | s (a b : Mk)
  | j (c : List Carry) (a b : Mk)
  | k (c : List Carry) (A : List (Nat × Nat × Nat)) (a b : Mk)
  | c (a b : Mk)
  | b (a : Mk)
  | l (c : List Carry) (a : Mk)
  | y (hid : List Nat)
  | f (k : Kd) (a b c d : Mk)

def weave : Code → Mk → AC
  | .region id ops false, .r hid => .reg id ops hid
  | .region id ops false, .d => .reg id ops []
  | .region id ops true, .q hid mods steps => .regD id ops hid mods steps
  | .region id ops false, .y hid => .regY id ops hid
  | .seq (.seq a (.block id (.rangeFunc g ps asg body))) (.seq x .ret), .f k ma mb mc mx => .rf (weave a ma) id g (ps.getD 0 0) k (weave asg mb) (weave body mc) (weave x mx)
  | .seq a b, .s x y => .seq (weave a x) (weave b y)
  | .seq a b, .j c x y => .seqJ c (weave a x) (weave b y)
  | .seq a b, .k c A x y => .seqC c A (weave a x) (weave b y)
  | .cond c a b, .c x y => .cond c (weave a x) (weave b y)
  | .block id a, .b x => .block id (weave a x)
  | .loop a, .l c x => .loop c (weave a x)
  | .exit id, _ => .exit id
  | .ret, _ => .ret
  | .label l, _ => .label l
  | _, _ => .skip

abbrev w64 (x : Int) : Int := IntKind.wrap .i64 x

theorem fn_sound2 {P : Program} {f : FuncId} {fn : Func} {c : AC} {n : Nat} (hf : P.funcs[f]? = some fn) (hb : fn.body = some c.code) (hn : fn.ntmps = n) {rs : List ResultVar} (hrs : fn.results = rs.toArray)
    (l : List Ent) {vs : List Value} (hv : l.map Ent.val = vs) (hl : Nat.ble l.length n = true) {tp : Bool} (htp : (bif tp then !(Nat.beq rs.length 1) else true) = true) {k : Kd} {h : Heap} {Q : Den k → Heap → Prop} {M : Prop}
    (e : M = interp P n c [] (rho0 l) [] h (retK P rs tp k Q) (fun _ _ _ _ => False) (retK P rs tp k Q)) (H : M) : CallT P f vs tp k h Q := by
  subst hv
  exact fn_sound hf hb hn hrs l hl htp (e ▸ H)

def AC.pre : Nat → AC → AC
  | 0, .seqC _ _ a _ => a
  | k + 1, .seq a b => .seq a (AC.pre k b)
  | k + 1, .seqJ c a b => .seqJ c a (AC.pre k b)
  | _, x => x
def AC.post : Nat → AC → Option (List Carry × List (Nat × Nat × Nat) × AC)
  | 0, .seqC c A _ b => some (c, A, b)
  | k + 1, .seq _ b => AC.post k b
  | k + 1, .seqJ _ _ b => AC.post k b
  | _, _ => none
def AC.rest (k : Nat) (x : AC) : AC := match AC.post k x with
  | some (_, _, b) => b
  | none => .skip
def cutK (c : List Carry) (A : List (Nat × Nat × Nat)) (X : Den (kdC c) → Heap → Prop) : Slots → Boxes → Heap → Prop := fun ρ β h => bif addrOk A ρ then (match getC c ρ β with
  | some s => X s h
  | none => False) else False
theorem cut_sound {P : Program} {n : Nat} {cc : List Carry} {A : List (Nat × Nat × Nat)} {b : AC} : ∀ (k : Nat) (x : AC) {F : List Nat} {ρ : Slots} {β : Boxes} {h : Heap} {K : Slots → Boxes → Heap → Prop} {E : Nat → Slots → Boxes → Heap → Prop} {R : Slots → Boxes → Heap → Prop}, AC.post k x = some (cc, A, b) →
    interp P n x F ρ β h K E R = interp P n (AC.pre k x) F ρ β h (cutK cc A fun s h1 => interp P n b F (setC cc s (addrS A)) (setB cc s []) h1 K E R) E R := by
  intro k
  induction k with
  | zero =>
    intro x F ρ β h K E R hp
    cases x with
    | seqC c A' a b' =>
      obtain ⟨rfl, rfl, rfl⟩ : c = cc ∧ A' = A ∧ b' = b := by
        have := Option.some.inj hp
        exact ⟨congrArg (·.1) this, congrArg (·.2.1) this, congrArg (·.2.2) this⟩
      rfl
    | _ => cases hp
  | succ k ih =>
    intro x F ρ β h K E R hp
    cases x with
    | seq a b' =>
      simp only [AC.pre, interp]
      congr 1
      funext ρ1 β1 h1
      exact ih b' hp
    | seqJ c a b' =>
      simp only [AC.pre, interp]
      cases freeC F c with
      | false => rfl
      | true =>
        simp only [cond_true]
        congr 1
        funext ρ1 β1 h1
        cases getC c ρ1 β1 with
        | none => rfl
        | some s => exact ih b' hp
    | _ => cases hp
theorem cut_part {P : Program} {n : Nat} {cc : List Carry} {A : List (Nat × Nat × Nat)} {x b : AC} (k : Nat) {ρ : Slots} {β : Boxes} {h : Heap} {K R : Slots → Boxes → Heap → Prop} {E : Nat → Slots → Boxes → Heap → Prop} (hp : AC.post k x = some (cc, A, b)) (X : Den (kdC cc) → Heap → Prop) {M : Prop}
    (eM : M = interp P n (AC.pre k x) [] ρ β h (cutK cc A X) E R) (eX : ∀ s h1, X s h1 = interp P n b [] (setC cc s (addrS A)) (setB cc s []) h1 K E R) : M = interp P n x [] ρ β h K E R := by
  rw [cut_sound k x hp, eM]
  congr 2
  funext s h1
  exact eX s h1

end Go.Mx
