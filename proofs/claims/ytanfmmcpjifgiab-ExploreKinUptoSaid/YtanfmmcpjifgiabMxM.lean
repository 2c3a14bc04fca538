/-
  Code with marks on it: which variables are hidden, what is carried round a loop and behind a branch; what it comes to; that the machine comes to the same.
-/
import Derived.Test.YtanfmmcpjifgiabMxP
set_option linter.unusedVariables false
set_option linter.unusedSimpArgs false
namespace Go.Mx

inductive Carry where
  | slot (t : Nat) (k : Kd)
  | box (i : Nat) (k : Kd)
  | drop (i : Nat)

inductive AC where
  | reg (id : Nat) (ops : Array Oper) (hid : List Nat)
  | regD (id : Nat) (ops : Array Oper) (hid mods : List Nat) (steps : List Stp)
  | seq (a b : AC)
  | seqJ (c : List Carry) (a b : AC)
  | cond (c : Operand) (a b : AC)
  | block (id : Nat) (a : AC)
  | loop (c : List Carry) (a : AC)
  | exit (id : Nat)
  | ret
  | skip
  | label (l : Nat)

def AC.code : AC → Code
  | .reg id ops _ => .region id ops false
  | .regD id ops _ _ _ => .region id ops true
  | .seq a b | .seqJ _ a b => .seq a.code b.code
  | .cond c a b => .cond c a.code b.code
  | .block id a => .block id a.code
  | .loop _ a => .loop a.code
  | .exit id => .exit id
  | .ret => .ret
  | .skip => .skip
  | .label l => .label l

/-- The slots that it writes. -/
def AC.wr : AC → List Nat
  | .reg _ ops _ => wrR ops
  | .regD _ ops _ _ _ => wrR ops
  | .seq a b | .seqJ _ a b | .cond _ a b => a.wr ++ b.wr
  | .block _ a | .loop _ a => a.wr
  | _ => []

def kdC : List Carry → Kd
  | [] => .nil
  | .slot _ k :: r => .pair k (kdC r)
  | .box _ k :: r => .pair k (kdC r)
  | .drop _ :: r => kdC r

def getC : (c : List Carry) → Slots → Boxes → Option (Den (kdC c))
  | [], _, _ => some ()
  | .slot t k :: r, ρ, β => match tvVal k (ρ t), getC r ρ β with
    | some x, some y => some (x, y)
    | _, _ => none
  | .box i k :: r, ρ, β => match look β i with
    | some l => match k.asm l, getC r ρ β with
      | some (x, []), some y => some (x, y)
      | _, _ => none
    | none => none
  | .drop _ :: r, ρ, β => getC r ρ β
def setC : (c : List Carry) → Den (kdC c) → Slots → Slots
  | [], _, ρ => ρ
  | .slot t k :: r, x, ρ => putS (setC r x.2 ρ) (some t) (.v k x.1)
  | .box _ _ :: r, x, ρ => setC r x.2 ρ
  | .drop _ :: r, x, ρ => setC r x ρ
def setB : (c : List Carry) → Den (kdC c) → Boxes → Boxes
  | [], _, β => β
  | .slot _ _ :: r, x, β => setB r x.2 β
  | .box i k :: r, x, β => (i, k.dis x.1) :: setB r x.2 β
  | .drop _ :: r, x, β => setB r x β

def boxesC : List Carry → List Nat
  | [] => []
  | .slot _ _ :: r => boxesC r
  | .box i _ :: r => i :: boxesC r
  | .drop i :: r => i :: boxesC r

def cleanT (W : List Nat) : TV → TV
  | .box i o => bif W.contains i then .junk else .box i o
  | .boxi i o n sz ix => bif W.contains i then .junk else .boxi i o n sz ix
  | v => v
def clean (W : List Nat) (ρ : Slots) : Slots := fun t => bif W.contains t then .junk else cleanT W (ρ t)
/-- The hidden variables that stay as they are. -/
def kept (W : List Nat) (c : List Carry) (β : Boxes) : Boxes := β.filter fun p => !(W.contains p.1 || (boxesC c).contains p.1)

theorem look_filter (f : Nat → Bool) : ∀ (β : Boxes) (i : Nat), look (β.filter fun p => f p.1) i = if f i then look β i else none
  | [], i => by simp [look]
  | (j, l) :: β, i => by
    have ih := look_filter f β i
    by_cases hj : f j = true
    · simp only [List.filter_cons, hj, if_true, look]
      by_cases c : i = j
      · subst c; simp [hj]
      · rw [beq_no c]; simp only [cond_false]; exact ih
    · have hj : f j = false := by simpa using hj
      simp only [List.filter_cons, hj, Bool.false_eq_true, if_false, look]
      rw [ih]
      by_cases c : i = j
      · subst c; simp [hj]
      · rw [beq_no c]; rfl
theorem look_kept (W : List Nat) (c : List Carry) (β : Boxes) (i : Nat) : look (kept W c β) i = if (!(W.contains i || (boxesC c).contains i)) = true then look β i else none :=
  look_filter (fun i => !(W.contains i || (boxesC c).contains i)) β i
theorem mem_look {β : Boxes} {i : Nat} (h : (β.map (·.1)).contains i = true) : ∃ l, look β i = some l := by
  induction β with
  | nil => simp at h
  | cons p β ih =>
    obtain ⟨j, m⟩ := p
    simp only [look]
    by_cases c : i = j
    · subst c; exact ⟨m, by simp⟩
    · rw [beq_no c]
      simp only [cond_false]
      refine ih ?_
      simp at h ⊢
      rcases h with h | h
      · exact absurd h c
      · exact h

/-- Does no carried box belong to those that must stay? -/
def freeC (F : List Nat) (c : List Carry) : Bool := (boxesC c).all fun i => !F.contains i

def Loop {σ : Type} (body : (σ → Heap → Prop) → σ → Heap → Prop) (s : σ) (h : Heap) : Prop :=
  ∃ (I : σ → Heap → Prop) (μ : σ → Heap → Nat), I s h ∧ ∀ s h, I s h → body (fun s' h' => I s' h' ∧ μ s' h' < μ s h) s h

def interp (P : Program) (n : Nat) : AC → List Nat → Slots → Boxes → Heap → (Slots → Boxes → Heap → Prop) → (Nat → Slots → Boxes → Heap → Prop) → (Slots → Boxes → Heap → Prop) → Prop
  | .reg _ ops hid, F, ρ, β, h, K, _, _ => regI P n F ops hid (List.range ops.size) ρ β h K
  | .regD _ ops hid mods steps, F, ρ, β, h, K, _, _ =>
    bif P.follows .mixedOrders && Region.noSelect ops && stepsOk ops (pendOf steps) steps (Array.replicate ops.size false) && Nat.beq steps.length ops.size && pendOk P n (F ++ (kept [] (mods.map .drop) β).map (·.1)) ops (pendOf steps) then
      regDI P n (F ++ (kept [] (mods.map .drop) β).map (·.1)) ops hid ((kept [] (mods.map .drop) β).map (·.1)) steps [] ρ β h K
    else False
  | .seq a b, F, ρ, β, h, K, E, R => interp P n a F ρ β h (fun ρ β h => interp P n b F ρ β h K E R) E R
  | .seqJ c a b, F, ρ, β, h, K, E, R =>
    bif freeC F c then
      interp P n a (F ++ (kept a.wr c β).map (·.1)) ρ β h (fun ρ1 β1 h1 => match getC c ρ1 β1 with
        | some s => interp P n b F (setC c s (clean a.wr ρ)) (setB c s (kept a.wr c β)) h1 K E R
        | none => False) E R
    else False
  | .cond c a b, F, ρ, β, h, K, E, R => match ev ρ c with
    | .kb true => interp P n a F ρ β h K E R
    | .kb false => interp P n b F ρ β h K E R
    | .v .bool x => (x = true → interp P n a F ρ β h K E R) ∧ (x = false → interp P n b F ρ β h K E R)
    | _ => False
  | .block id a, F, ρ, β, h, K, E, R => interp P n a F ρ β h K (fun id' => bif Nat.beq id' id then K else E id') R
  | .loop c a, F, ρ, β, h, K, E, R =>
    bif freeC F c then match getC c ρ β with
      | some s0 => Loop (fun again s h => interp P n a (F ++ (kept a.wr c β).map (·.1)) (setC c s (clean a.wr ρ)) (setB c s (kept a.wr c β)) h (fun ρ1 β1 h1 => match getC c ρ1 β1 with
          | some s' => again s' h1
          | none => False) E R) s0 h
      | none => False
    else False
  | .exit id, _, ρ, β, h, _, E, _ => E id ρ β h
  | .ret, _, ρ, β, h, _, _, R => R ρ β h
  | .skip, _, ρ, β, h, K, _, _ => K ρ β h
  | .label _, _, ρ, β, h, K, _, _ => K ρ β h

/-! ### soundness -/
theorem Rl_id {κ κ' : Nat → Nat} {W : List Nat} (hk : ∀ i, W.contains i = false → κ' i = κ i) {v : TV} {u : Value} (r : Rl κ v u) : Rl κ' (cleanT W v) u := by
  cases v with
  | box i o =>
    cases e : W.contains i
    · simp only [cleanT, e, cond_false, Rl, hk i e]; exact r
    · simp only [cleanT, e, cond_true]; trivial
  | boxi i o n sz ix =>
    cases e : W.contains i
    · simp only [cleanT, e, cond_false, Rl, hk i e]; exact r
    · simp only [cleanT, e, cond_true]; trivial
  | _ => exact r

theorem slots_setC {κ : Nat → Nat} {e : Nat → Value} {ρ1 : Slots} {β1 : Boxes} (h1 : ∀ t, Rl κ (ρ1 t) (e t)) : ∀ (c : List Carry) (s : Den (kdC c)) (ρ : Slots), getC c ρ1 β1 = some s → (∀ t, Rl κ (ρ t) (e t)) → ∀ t, Rl κ (setC c s ρ t) (e t)
  | [], s, ρ, _, h => h
  | .slot t k :: r, s, ρ, hg, h => by
    simp only [getC] at hg
    split at hg
    · rename_i x y hx hy
      cases hg
      intro t'
      simp only [setC, putS]
      by_cases c : t' = t
      · subst c
        rw [Nat.beq_refl]
        exact tvVal_spec hx (h1 t')
      · rw [beq_no c]
        exact slots_setC h1 r y ρ hy h t'
    · cases hg
  | .box i k :: r, s, ρ, hg, h => by
    simp only [getC] at hg
    split at hg
    · split at hg
      · rename_i x y hx hy
        cases hg
        exact slots_setC h1 r y ρ hy h
      · cases hg
    · cases hg
  | .drop i :: r, s, ρ, hg, h => slots_setC h1 r s ρ hg h

theorem boxes_setB {ρ1 : Slots} {β1 β : Boxes} : ∀ (c : List Carry) (s : Den (kdC c)), getC c ρ1 β1 = some s → ∀ i l, look (setB c s β) i = some l →
    ((boxesC c).contains i = true ∧ ∃ l1, look β1 i = some l1 ∧ entCells l1 = entCells l) ∨ look β i = some l
  | [], s, _, i, l, h => .inr h
  | .slot t k :: r, s, hg, i, l, h => by
    simp only [getC] at hg
    split at hg
    · rename_i x y hx hy
      cases hg
      exact boxes_setB r y hy i l h
    · cases hg
  | .box j k :: r, s, hg, i, l, h => by
    simp only [getC] at hg
    split at hg
    · rename_i l1 hl1
      split at hg
      · rename_i x y hx hy
        cases hg
        simp only [setB, look] at h
        by_cases c : i = j
        · subst c
          simp at h
          subst h
          refine .inl ⟨by simp [boxesC], l1, hl1, ?_⟩
          rw [Kd.asm_spec _ _ _ _ hx, Kd.dis_cells]
          simp [entCells]
        · rw [beq_no c] at h
          rcases boxes_setB r y hy i l h with ⟨h1, h2⟩ | h1
          · exact .inl ⟨by simp [boxesC] at h1 ⊢; exact .inr h1, h2⟩
          · exact .inr h1
      · cases hg
    · cases hg
  | .drop j :: r, s, hg, i, l, h => by
    rcases boxes_setB r s hg i l h with ⟨h1, h2⟩ | h1
    · exact .inl ⟨by simp [boxesC] at h1 ⊢; exact .inr h1, h2⟩
    · exact .inr h1

/-- The blocks that must stay inside. -/
def ZK (Z : Nat → Prop) (κ : Nat → Nat) (β : Boxes) : Nat → Prop := fun b => Z b ∨ ∃ i l, look β i = some l ∧ κ i = b

theorem St.into {h0 w0 n F Z κ ρ β h a w} (s : St h0 w0 n F Z κ ρ β h a w) (W : List Nat) (c : List Carry) : St h0 w0 n (F ++ (kept W c β).map (·.1)) (ZK Z κ (kept W c β)) κ ρ β h a w where
  inv := s.inv
  box := s.box
  inj := s.inj
  z b hb := by
    rcases hb with hb | ⟨i, l, e, rfl⟩
    · exact s.z b hb
    · rw [look_kept] at e
      split at e
      · exact ⟨s.box_lt e, (s.box i l e).2.1⟩
      · cases e
  zf i l e hz := by
    rw [List.contains_append]
    rcases hz with hz | ⟨j, m, e2, hj⟩
    · rw [s.zf i l e hz]; rfl
    · have e3 := e2
      rw [look_kept] at e3
      split at e3
      · have : j = i := s.inj j i m l e3 e hj
        subst this
        rw [look_mem e2, Bool.or_true]
      · cases e3
  size := s.size
  slot := s.slot
  defers := s.defers

/-- Out again, by another way than the end. -/
theorem St.outOf {h0 w0 n F Z κ ρ β h a w} (s : St h0 w0 n F Z κ ρ β h a w) {W : List Nat} {c : List Carry} {κ1 ρ1 β1 h1 a1 w1}
    (q : St h0 w0 n (F ++ (kept W c β).map (·.1)) (ZK Z κ (kept W c β)) κ1 ρ1 β1 h1 a1 w1) {W' : List Nat} (f : Fr W' (F ++ (kept W c β).map (·.1)) (ZK Z κ (kept W c β)) κ a w κ1 a1 w1) :
    St h0 w0 n F Z κ1 ρ1 β1 h1 a1 w1 where
  inv := q.inv
  box := q.box
  inj := q.inj
  z b hb := q.z b (.inl hb)
  zf i l e hz := by
    have h1 := q.zf i l e (.inl hz)
    rw [List.contains_append, Bool.or_eq_true] at h1
    rcases h1 with h1 | h1
    · exact h1
    · obtain ⟨m, hm⟩ := mem_look h1
      have e1 := f.id i (.inr (by rw [List.contains_append, h1, Bool.or_true]))
      rw [e1] at hz
      have e2 := hm
      rw [look_kept] at e2
      split at e2
      · exact s.zf i m e2 hz
      · cases e2
  size := q.size
  slot := q.slot
  defers := q.defers

theorem Fr.outOf {W F : List Nat} {Z : Nat → Prop} {κ : Nat → Nat} {β : Boxes} {a w κ1 a1 w1} {G : List Nat} (f : Fr W (F ++ G) (ZK Z κ β) κ a w κ1 a1 w1) : Fr W F Z κ a w κ1 a1 w1 :=
  f.mono (fun _ e => e) (fun i e => by rw [List.contains_append, e]; rfl) (fun b e => .inl e)

/-- Behind a piece, with what it carries. -/
theorem St.join {h0 w0 n F Z κ ρ β h a w} (s : St h0 w0 n F Z κ ρ β h a w) {W : List Nat} {c : List Carry} (hfree : freeC F c = true) {κ1 ρ1 β1 h1 a1 w1}
    (q : St h0 w0 n (F ++ (kept W c β).map (·.1)) (ZK Z κ (kept W c β)) κ1 ρ1 β1 h1 a1 w1) (f : Fr W (F ++ (kept W c β).map (·.1)) (ZK Z κ (kept W c β)) κ a w κ1 a1 w1)
    {x : Den (kdC c)} (hx : getC c ρ1 β1 = some x) : St h0 w0 n F Z κ1 (setC c x (clean W ρ)) (setB c x (kept W c β)) h1 a1 w1 := by
  have hidk : ∀ i l, look (kept W c β) i = some l → κ1 i = κ i := fun i l e => f.id i (.inr (by rw [List.contains_append, look_mem e, Bool.or_true]))
  have hkl : ∀ i l, look (kept W c β) i = some l → look β i = some l ∧ (boxesC c).contains i = false := by
    intro i l e
    rw [look_kept] at e
    split at e
    · rename_i hc
      simp only [Bool.not_eq_true', Bool.or_eq_false_iff] at hc
      exact ⟨e, hc.2⟩
    · cases e
  have hcf : ∀ i, (boxesC c).contains i = true → ∀ l, look β1 i = some l → ¬ ZK Z κ (kept W c β) (κ1 i) := by
    intro i hi l e hz
    have h1 := q.zf i l e hz
    rw [List.contains_append, Bool.or_eq_true] at h1
    rcases h1 with h1 | h1
    · unfold freeC at hfree
      rw [List.all_eq_true] at hfree
      have := hfree i (by simpa using hi)
      rw [h1] at this
      cases this
    · obtain ⟨m, hm⟩ := mem_look h1
      have := (hkl i m hm).2
      rw [this] at hi
      cases hi
  refine ⟨q.inv, fun i l e => ?_, fun i j l m e1 e2 e => ?_, fun b hb => q.z b (.inl hb), fun i l e hz => ?_, q.size, ?_, q.defers⟩
  · rcases boxes_setB c x hx i l e with ⟨_, l1, e1, e2⟩ | e1
    · obtain ⟨⟨t, b1⟩, b2, b3⟩ := q.box i l1 e1
      exact ⟨⟨t, by rw [← e2]; exact b1⟩, b2, b3⟩
    · obtain ⟨⟨t, b1⟩, b2, b3⟩ := s.box i l (hkl i l e1).1
      rw [hidk i l e1]
      exact ⟨⟨t, (f.blk (κ i) (.inr ⟨i, l, e1, rfl⟩)).trans b1⟩, (q.z (κ i) (.inr ⟨i, l, e1, rfl⟩)).2, b3⟩
  · rcases boxes_setB c x hx i l e1 with ⟨c1, l1, g1, _⟩ | g1 <;> rcases boxes_setB c x hx j m e2 with ⟨c2, l2, g2, _⟩ | g2
    · exact q.inj i j l1 l2 g1 g2 e
    · exact absurd (.inr ⟨j, m, g2, by rw [e, hidk j m g2]⟩) (hcf i c1 l1 g1)
    · exact absurd (.inr ⟨i, l, g1, by rw [← e, hidk i l g1]⟩) (hcf j c2 l2 g2)
    · rw [hidk i l g1, hidk j m g2] at e
      exact s.inj i j l m (hkl i l g1).1 (hkl j m g2).1 e
  · rcases boxes_setB c x hx i l e with ⟨c1, l1, g1, _⟩ | g1
    · exact absurd (.inl hz) (hcf i c1 l1 g1)
    · rw [hidk i l g1] at hz
      exact s.zf i l (hkl i l g1).1 hz
  · refine slots_setC q.slot c x (clean W ρ) hx fun t => ?_
    unfold clean
    cases e : W.contains t
    · simp only [cond_false]
      rw [f.slot t e]
      exact Rl_id (fun i hi => f.id i (.inl hi)) (s.slot t)
    · trivial

/-- What code's soundness says. -/
def Good (P : Program) (h0 : Heap) (w0 : World) (n : Nat) (c : Code) (W F : List Nat) (Z : Nat → Prop) (κ : Nat → Nat) (a : Act) (w : World)
    (K : Slots → Boxes → Heap → Prop) (E : Nat → Slots → Boxes → Heap → Prop) (R : Slots → Boxes → Heap → Prop) : Prop :=
  c.wp P (fun e a' w' => match e with
    | .normal => CodePost h0 w0 n W F Z κ a w K a' w'
    | .exit id => CodePost h0 w0 n W F Z κ a w (E id) a' w'
    | .ret => ∃ κ' ρ' β' h' F' Z', St h0 w0 n F' Z' κ' ρ' β' h' a' w' ∧ R ρ' β' h'
    | _ => False) a w

theorem cappL {t : Nat} {A B : List Nat} (h : (A ++ B).contains t = false) : A.contains t = false := by
  rw [List.contains_append, Bool.or_eq_false_iff] at h; exact h.1
theorem cappR {t : Nat} {A B : List Nat} (h : (A ++ B).contains t = false) : B.contains t = false := by
  rw [List.contains_append, Bool.or_eq_false_iff] at h; exact h.2

theorem Good.weak {P : Program} {h0 : Heap} {w0 : World} {n : Nat} {c : Code} {W W' F : List Nat} {Z : Nat → Prop} {κ : Nat → Nat} {a : Act} {w : World}
    {K : Slots → Boxes → Heap → Prop} {E : Nat → Slots → Boxes → Heap → Prop} {R : Slots → Boxes → Heap → Prop} (g : Good P h0 w0 n c W F Z κ a w K E R) (hW : ∀ t, W'.contains t = false → W.contains t = false) :
    Good P h0 w0 n c W' F Z κ a w K E R := by
  refine wp_mono g fun e a' w' hp => ?_
  cases e with
  | normal => obtain ⟨κ2, ρ2, β2, h2, p1, p2, p3⟩ := hp; exact ⟨κ2, ρ2, β2, h2, p1, p2.mono hW (fun _ e => e) (fun _ e => e), p3⟩
  | exit id => obtain ⟨κ2, ρ2, β2, h2, p1, p2, p3⟩ := hp; exact ⟨κ2, ρ2, β2, h2, p1, p2.mono hW (fun _ e => e) (fun _ e => e), p3⟩
  | ret => exact hp
  | _ => exact hp.elim

theorem interp_sound {P : Program} {h0 : Heap} {w0 : World} {n : Nat} : ∀ (c : AC) {F Z κ ρ β h a w K E R}, St h0 w0 n F Z κ ρ β h a w → interp P n c F ρ β h K E R →
    Good P h0 w0 n c.code c.wr F Z κ a w K E R
  | .reg id ops hid, F, Z, κ, ρ, β, h, a, w, K, E, R, s, hm => wp_region (regI_sound (List.range ops.size) s hm fun a' w' hp => hp)
  | .regD id ops hid mods steps, F, Z, κ, ρ, β, h, a, w, K, E, R, s, hm => by
    simp only [interp] at hm
    cases hc : (P.follows .mixedOrders && Region.noSelect ops && stepsOk ops (pendOf steps) steps (Array.replicate ops.size false) && Nat.beq steps.length ops.size && pendOk P n (F ++ (kept [] (mods.map .drop) β).map (·.1)) ops (pendOf steps))
    · rw [hc] at hm; exact hm.elim
    · rw [hc] at hm
      simp only [cond_true] at hm
      simp only [Bool.and_eq_true] at hc
      obtain ⟨⟨⟨⟨c1, c2⟩, c3⟩, c4⟩, c5⟩ := hc
      have c4 := Nat.eq_of_beq_eq_true c4
      have sd : St h0 w0 n F Z κ ρ β h a { w with drawn := w.drawn + 1 } := ⟨s.inv.drew _, s.box, s.inj, s.z, s.zf, s.size, s.slot, s.defers⟩
      have si := sd.into [] (mods.map Carry.drop)
      have hpk : ∀ j, ((kept [] (mods.map Carry.drop) β).map (·.1)).contains j = true → ZK Z κ (kept [] (mods.map Carry.drop) β) (κ j) := by
        intro j hj
        obtain ⟨l, hl⟩ := mem_look hj
        exact .inr ⟨j, l, hl, rfl⟩
      refine wp_region_F c1 ?_
      rw [← c4] at c3 ⊢
      refine regDI_sound (ws := []) hpk c2 (fun c a w hq => hq) _ steps c5 rfl si Fr.refl (fun _ h => by cases h) c3 hm fun a' w' hp => ?_
      obtain ⟨κ2, ρ2, β2, h2, p1, p2, p3⟩ := hp
      exact ⟨κ2, ρ2, β2, h2, sd.outOf p1 p2, ⟨fun t ht => p2.slot t ht, fun i hi => p2.outOf.id i hi, fun b hb => p2.blk b (.inl hb)⟩, p3⟩
  | .seq x y, F, Z, κ, ρ, β, h, a, w, K, E, R, s, hm => by
    refine wp_seq (wp_mono (interp_sound x s hm) fun e a' w' hp => ?_)
    cases e with
    | normal =>
      obtain ⟨κ1, ρ1, β1, h1, q1, q2, q3⟩ := hp
      refine wp_mono (interp_sound y q1 q3) fun e a2 w2 hp2 => ?_
      have q2' : Fr (AC.seq x y).wr F Z κ a w κ1 a' w' := q2.mono (fun t => cappL) (fun _ e => e) (fun _ e => e)
      cases e with
      | normal => obtain ⟨κ2, ρ2, β2, h2, p1, p2, p3⟩ := hp2; exact ⟨κ2, ρ2, β2, h2, p1, q2'.trans (p2.mono (fun t => cappR) (fun _ e => e) (fun _ e => e)), p3⟩
      | exit id => obtain ⟨κ2, ρ2, β2, h2, p1, p2, p3⟩ := hp2; exact ⟨κ2, ρ2, β2, h2, p1, q2'.trans (p2.mono (fun t => cappR) (fun _ e => e) (fun _ e => e)), p3⟩
      | ret => exact hp2
      | _ => exact hp2.elim
    | exit id => obtain ⟨κ2, ρ2, β2, h2, p1, p2, p3⟩ := hp; exact ⟨κ2, ρ2, β2, h2, p1, p2.mono (fun t => cappL) (fun _ e => e) (fun _ e => e), p3⟩
    | ret => exact hp
    | _ => exact hp.elim
  | .seqJ c x y, F, Z, κ, ρ, β, h, a, w, K, E, R, s, hm => by
    simp only [interp] at hm
    cases hfree : freeC F c
    · rw [hfree] at hm; exact hm.elim
    · rw [hfree] at hm
      simp only [cond_true] at hm
      refine wp_seq (wp_mono (interp_sound x (s.into x.wr c) hm) fun e a' w' hp => ?_)
      cases e with
      | normal =>
        obtain ⟨κ1, ρ1, β1, h1, q1, q2, q3⟩ := hp
        split at q3
        · rename_i v hv
          have q1' := s.join hfree q1 q2 hv
          refine wp_mono (interp_sound y q1' q3) fun e a2 w2 hp2 => ?_
          have q2' : Fr (AC.seqJ c x y).wr F Z κ a w κ1 a' w' := q2.outOf.mono (fun t => cappL) (fun _ e => e) (fun _ e => e)
          cases e with
          | normal => obtain ⟨κ2, ρ2, β2, h2, p1, p2, p3⟩ := hp2; exact ⟨κ2, ρ2, β2, h2, p1, q2'.trans (p2.mono (fun t => cappR) (fun _ e => e) (fun _ e => e)), p3⟩
          | exit id => obtain ⟨κ2, ρ2, β2, h2, p1, p2, p3⟩ := hp2; exact ⟨κ2, ρ2, β2, h2, p1, q2'.trans (p2.mono (fun t => cappR) (fun _ e => e) (fun _ e => e)), p3⟩
          | ret => exact hp2
          | _ => exact hp2.elim
        · exact q3.elim
      | exit id => obtain ⟨κ2, ρ2, β2, h2, p1, p2, p3⟩ := hp; exact ⟨κ2, ρ2, β2, h2, s.outOf p1 p2, p2.outOf.mono (fun t => cappL) (fun _ e => e) (fun _ e => e), p3⟩
      | ret => exact hp
      | _ => exact hp.elim
  | .cond c x y, F, Z, κ, ρ, β, h, a, w, K, E, R, s, hm => by
    have hc := s.evOk.ev c
    simp only [interp] at hm
    split at hm
    · rename_i e; rw [e] at hc
      exact wp_cond_true hc ((interp_sound x s hm).weak (fun t => cappL))
    · rename_i e; rw [e] at hc
      exact wp_cond_false hc ((interp_sound y s hm).weak (fun t => cappR))
    · rename_i v e; rw [e] at hc
      exact wp_cond_split hc (fun ht => (interp_sound x s (hm.1 ht)).weak (fun t => cappL)) (fun hf => (interp_sound y s (hm.2 hf)).weak (fun t => cappR))
    · exact hm.elim
  | .block id x, F, Z, κ, ρ, β, h, a, w, K, E, R, s, hm => by
    refine wp_block (wp_mono (interp_sound x s hm) fun e a' w' hp => ?_)
    cases e with
    | normal => exact hp
    | exit id' =>
      simp only [Exit.inBlock]
      by_cases c : id' = id
      · subst c
        simp only [if_true]
        dsimp only at hp
        rw [Nat.beq_refl] at hp
        exact hp
      · rw [if_neg c]
        dsimp only at hp
        rw [beq_no c] at hp
        exact hp
    | ret => exact hp
    | _ => exact hp.elim
  | .loop c x, F, Z, κ, ρ, β, h, a, w, K, E, R, s, hm => by
    simp only [interp] at hm
    cases hfree : freeC F c
    · rw [hfree] at hm; exact hm.elim
    · rw [hfree] at hm
      simp only [cond_true] at hm
      split at hm
      · rename_i s0 hs0
        obtain ⟨I, μ, hI, hround⟩ := hm
        let F' := F ++ (kept x.wr c β).map (·.1)
        let Z' := ZK Z κ (kept x.wr c β)
        let Inn : Act → World → (Den (kdC c)) → Heap → Prop := fun a1 w1 v h1 => I v h1 ∧ ∃ κ1, St h0 w0 n F Z κ1 (setC c v (clean x.wr ρ)) (setB c v (kept x.wr c β)) h1 a1 w1 ∧
          (∃ ρ1 β1, St h0 w0 n F' Z' κ1 ρ1 β1 h1 a1 w1 ∧ getC c ρ1 β1 = some v) ∧ Fr x.wr F' Z' κ a w κ1 a1 w1
        have start : Inn a w s0 h := ⟨hI, κ, s.join hfree (s.into x.wr c) Fr.refl hs0, ⟨ρ, β, s.into x.wr c, hs0⟩, Fr.refl⟩
        have key : ∀ m : Nat, ∀ a1 w1 v h1, Inn a1 w1 v h1 → True := fun _ _ _ _ _ _ => trivial
        refine wp_loop (fun a1 w1 => ∃ v h1, Inn a1 w1 v h1) (fun a1 w1 => (Classical.epsilon fun m : Nat => ∃ v h1, Inn a1 w1 v h1 ∧ m = μ v h1 ∧ ∀ v' h1', Inn a1 w1 v' h1' → m ≤ μ v' h1')) ⟨s0, h, start⟩ ?_
        intro a1 w1 hex
        -- of all that fit, one with the least measure
        have hleast : ∃ m : Nat, ∃ v h1, Inn a1 w1 v h1 ∧ m = μ v h1 ∧ ∀ v' h1', Inn a1 w1 v' h1' → m ≤ μ v' h1' := by
          obtain ⟨v, h1, hi⟩ := hex
          have : ∀ m v h1, Inn a1 w1 v h1 → m = μ v h1 → ∃ m : Nat, ∃ v h1, Inn a1 w1 v h1 ∧ m = μ v h1 ∧ ∀ v' h1', Inn a1 w1 v' h1' → m ≤ μ v' h1' := by
            intro m
            induction m using Nat.strongRecOn with
            | _ m ih =>
              intro v h1 hi hm
              by_cases c : ∀ v' h1', Inn a1 w1 v' h1' → m ≤ μ v' h1'
              · exact ⟨m, v, h1, hi, hm, c⟩
              · simp only [Classical.not_forall, Nat.not_le] at c
                obtain ⟨v', h1', hi', hlt⟩ := c
                exact ih _ hlt v' h1' hi' rfl
          exact this _ v h1 hi rfl
        have hspec := Classical.epsilon_spec (p := fun m : Nat => ∃ v h1, Inn a1 w1 v h1 ∧ m = μ v h1 ∧ ∀ v' h1', Inn a1 w1 v' h1' → m ≤ μ v' h1') hleast
        obtain ⟨v, h1, hi, hmu, hmin⟩ := hspec
        obtain ⟨hIv, κ1, q0, ⟨ρz, βz, qz, hz⟩, qf⟩ := hi
        have hbody := hround v h1 hIv
        -- the round begins in the state that is known; what must stay is the outer one's
        have q0' : St h0 w0 n F' Z' κ1 (setC c v (clean x.wr ρ)) (setB c v (kept x.wr c β)) h1 a1 w1 := by
          refine ⟨q0.inv, q0.box, q0.inj, qz.z, fun i l e hzz => ?_, q0.size, q0.slot, q0.defers⟩
          rcases boxes_setB c v hz i l e with ⟨_, l1, g1, _⟩ | g1
          · exact qz.zf i l1 g1 hzz
          · show (F ++ (kept x.wr c β).map (·.1)).contains i = true
            rw [List.contains_append, look_mem g1, Bool.or_true]
        refine wp_mono (interp_sound x q0' hbody) fun e a2 w2 hp => ?_
        cases e with
        | normal =>
          obtain ⟨κ2, ρ2, β2, h2, p1, p2, p3⟩ := hp
          split at p3
          · rename_i v2 hv2
            have hfr : Fr x.wr F' Z' κ a w κ2 a2 w2 := qf.trans p2
            have hin2 : Inn a2 w2 v2 h2 := ⟨p3.1, κ2, s.join hfree p1 hfr hv2, ⟨ρ2, β2, p1, hv2⟩, hfr⟩
            refine ⟨⟨v2, h2, hin2⟩, ?_⟩
            have hleast2 : ∃ m : Nat, ∃ v h1, Inn a2 w2 v h1 ∧ m = μ v h1 ∧ ∀ v' h1', Inn a2 w2 v' h1' → m ≤ μ v' h1' := by
              have : ∀ m v h1, Inn a2 w2 v h1 → m = μ v h1 → ∃ m : Nat, ∃ v h1, Inn a2 w2 v h1 ∧ m = μ v h1 ∧ ∀ v' h1', Inn a2 w2 v' h1' → m ≤ μ v' h1' := by
                intro m
                induction m using Nat.strongRecOn with
                | _ m ih =>
                  intro v h1 hi hm
                  by_cases c : ∀ v' h1', Inn a2 w2 v' h1' → m ≤ μ v' h1'
                  · exact ⟨m, v, h1, hi, hm, c⟩
                  · simp only [Classical.not_forall, Nat.not_le] at c
                    obtain ⟨v', h1', hi', hlt⟩ := c
                    exact ih _ hlt v' h1' hi' rfl
              exact this _ v2 h2 hin2 rfl
            obtain ⟨v3, h3, hi3, hmu3, hmin3⟩ := Classical.epsilon_spec (p := fun m : Nat => ∃ v h1, Inn a2 w2 v h1 ∧ m = μ v h1 ∧ ∀ v' h1', Inn a2 w2 v' h1' → m ≤ μ v' h1') hleast2
            have := hmin3 v2 h2 hin2
            have := p3.2
            omega
          · exact p3.elim
        | exit id => obtain ⟨κ2, ρ2, β2, h2, p1, p2, p3⟩ := hp; exact ⟨κ2, ρ2, β2, h2, s.outOf p1 (qf.trans p2), (qf.trans p2).outOf, p3⟩
        | ret => exact hp
        | _ => exact hp.elim
      · exact hm.elim
  | .exit id, F, Z, κ, ρ, β, h, a, w, K, E, R, s, hm => wp_exit ⟨κ, ρ, β, h, s, Fr.refl, hm⟩
  | .ret, F, Z, κ, ρ, β, h, a, w, K, E, R, s, hm => wp_ret ⟨κ, ρ, β, h, F, Z, s, hm⟩
  | .skip, F, Z, κ, ρ, β, h, a, w, K, E, R, s, hm => wp_skip ⟨κ, ρ, β, h, s, Fr.refl, hm⟩
  | .label l, F, Z, κ, ρ, β, h, a, w, K, E, R, s, hm => wp_label ⟨κ, ρ, β, h, s, Fr.refl, hm⟩

end Go.Mx
