/-
  Regions that draw their order: one walk in one order serves every order.
  Regions that draw their order: soundness of the walk.
-/
import Derived.Test.YtndhbkhhehleaaaMxK
import Derived.OrdersHeld
set_option linter.unusedVariables false
set_option linter.unusedSimpArgs false
namespace Go.Mx

section
variable {P : Program} {ops : Array Oper} {Q : Exit → Act → World → Prop} {md : Region.Mode}

structure Fact where
  holds : World → Prop
  spoil : Nat → Bool

def wpAnyF (P : Program) (md : Region.Mode) (ops : Array Oper) (Q : Exit → Act → World → Prop) : Nat → List Fact → Array Bool → Act → World → Prop
  | 0, _, listed, a, w => Region.ready md ops listed = [] ∧ Q .normal a w
  | fuel + 1, Fs, listed, a, w =>
    (Region.ready md ops listed = [] → Q .normal a w) ∧
    ∀ i ∈ Region.ready md ops listed, wpOp P ops Q i (fun a' w' => (∀ f ∈ Fs, f.spoil i = false → f.holds w → f.holds w') ∧ wpAnyF P md ops Q fuel (Fs.filter fun f => !f.spoil i) (listed.setIfInBounds i true) a' w') a w

theorem wpAny_of_F : ∀ (fuel : Nat) (Fs : List Fact) (listed : Array Bool) (a : Act) (w : World), wpAnyF P md ops Q fuel Fs listed a w → wpAny P md ops Q fuel listed a w
  | 0, _, _, _, _, h => h
  | fuel + 1, _, _, _, _, h => ⟨h.1, fun i hi => wpOp_mono (fun a' w' h' => wpAny_of_F fuel _ _ a' w' h'.2) (h.2 i hi)⟩
theorem wpAnyF_less : ∀ (fuel : Nat) {Fs Gs : List Fact} {listed : Array Bool} {a : Act} {w : World}, (∀ f ∈ Gs, f ∈ Fs) → wpAnyF P md ops Q fuel Fs listed a w → wpAnyF P md ops Q fuel Gs listed a w
  | 0, _, _, _, _, _, _, h => h
  | fuel + 1, Fs, Gs, _, _, _, hs, h => ⟨h.1, fun i hi => wpOp_mono (fun a' w' h' => ⟨fun f hf => h'.1 f (hs f hf), wpAnyF_less fuel (fun f hf => by
      rw [List.mem_filter] at hf ⊢
      exact ⟨hs f hf.1, hf.2⟩) h'.2⟩) (h.2 i hi)⟩

def Behind (md : Region.Mode) (ops : Array Oper) (Dm : Nat → Bool) (listed : Array Bool) (i : Nat) : Prop :=
  ∃ T : Nat → Prop, (∀ j, T j → listed.getD j true = false) ∧ (∀ j, T j → j ≠ i → ∃ oj, ops[j]? = some oj ∧ ∃ e ∈ oj.after, Region.binds md e = true ∧ T e.on) ∧ ∀ j oj, ops[j]? = some oj → j ≠ i → listed.getD j true = false → ¬ T j → Dm j = false
theorem Behind.not {md : Region.Mode} {ops : Array Oper} {listed : Array Bool} {i j : Nat} {T : Nat → Prop} (h1 : ∀ j, T j → listed.getD j true = false)
    (h2 : ∀ j, T j → j ≠ i → ∃ oj, ops[j]? = some oj ∧ ∃ e ∈ oj.after, Region.binds md e = true ∧ T e.on) (hj : j ∈ Region.ready md ops listed) (hji : j ≠ i) : ¬ T j := by
  intro hT
  obtain ⟨_, oj, hoj, hall⟩ := mem_ready.1 hj
  obtain ⟨oj', hoj', e, he, hb, hTe⟩ := h2 j hT hji
  rw [hoj] at hoj'; cases hoj'
  have h3 := hall e he hb
  have h0 := h1 _ hTe
  rcases Nat.lt_or_ge e.on listed.size with h' | h'
  · simp [h'] at h0 h3; rw [h0] at h3; cases h3
  · simp [Array.getElem?_eq_none h'] at h3
theorem Behind.dm {md : Region.Mode} {ops : Array Oper} {Dm : Nat → Bool} {listed : Array Bool} {i j : Nat} (h : Behind md ops Dm listed i) (hj : j ∈ Region.ready md ops listed) (hji : j ≠ i) : Dm j = false := by
  obtain ⟨T, h1, h2, h3⟩ := h
  obtain ⟨hjun, oj, hoj, hall⟩ := mem_ready.1 hj
  exact h3 j oj hoj hji hjun (Behind.not h1 h2 hj hji)
theorem Behind.set {md : Region.Mode} {ops : Array Oper} {Dm : Nat → Bool} {listed : Array Bool} {i j : Nat} (h : Behind md ops Dm listed i) (hj : j ∈ Region.ready md ops listed) (hji : j ≠ i) : Behind md ops Dm (listed.setIfInBounds j true) i := by
  obtain ⟨T, h1, h2, h3⟩ := h
  have hn := Behind.not h1 h2 hj hji
  refine ⟨T, fun k hk => ?_, h2, fun k ok hk hki hun hT => h3 k ok hk hki ?_ hT⟩
  · have hjk : j ≠ k := fun e => by subst e; exact hn hk
    rw [getD_set_ne true hjk]; exact h1 k hk
  · by_cases hjk : j = k
    · subst hjk; exact (mem_ready.1 hj).1
    · rw [getD_set_ne true hjk] at hun; exact hun

theorem wpAnyF_first {f : Fact} {i : Nat} {oi : Oper} {v : Value} (hi : ops[i]? = some oi) (hsel : ∀ (j : Nat) (o : Oper) cs b, ops[j]? = some o → o.op ≠ .select cs b)
    (hQ : ∀ c a w, Q (.panic c) (a.put oi.dst v) w → Q (.panic c) a w) :
    ∀ (fuel : Nat) (Fs : List Fact) (listed : Array Bool) (a : Act) (w : World),
      (∀ j oj, ops[j]? = some oj → j ≠ i → listed.getD j true = false → (∀ e ∈ oj.after, Region.binds md e = true → e.on ≠ i) → oi.apart ops oj = true) →
      Behind md ops f.spoil listed i → i ∈ Region.ready md ops listed → YieldsIf P ops f.holds oi v a → f.holds w →
      wpAnyF P md ops Q fuel (f :: Fs) (listed.setIfInBounds i true) (a.put oi.dst v) w → wpAnyF P md ops Q (fuel + 1) Fs listed a w := by
  intro fuel
  induction fuel with
  | zero =>
    intro Fs listed a w _ _ hr hy hS H
    refine ⟨fun h => (by rw [h] at hr; cases hr), fun j hj => ?_⟩
    by_cases hji : j = i
    · subst hji; exact hy.wpOp hi hS ⟨fun _ _ _ e => e, H⟩
    · have := ready_mono hj hji
      rw [H.1] at this
      cases this
  | succ fuel ih =>
    intro Fs listed a w hfree hdm hr hy hS H
    refine ⟨fun h => (by rw [h] at hr; cases hr), fun j hj => ?_⟩
    by_cases hji : j = i
    · subst hji
      exact hy.wpOp hi hS ⟨fun _ _ _ e => e, wpAnyF_less _ (fun g hg => List.mem_cons_of_mem _ (List.mem_filter.1 hg).1) H⟩
    · have h1 := H.2 j (ready_mono hj hji)
      obtain ⟨hjun, oj, hoj, hall⟩ := mem_ready.1 hj
      have hnot : ∀ e ∈ oj.after, Region.binds md e = true → e.on ≠ i := fun e he hb heq => by
        have h1 := hall e he hb
        have h0 := (mem_ready.1 hr).1
        rw [heq] at h1
        rcases Nat.lt_or_ge i listed.size with h' | h'
        · simp [h'] at h0 h1; rw [h0] at h1; cases h1
        · simp [Array.getElem?_eq_none h'] at h1
      have h2 := wpOp_putIf hoj (hfree j oj hoj hji hjun hnot) (fun cs b => hsel i oi cs b hi) (fun cs b => hsel j oj cs b hoj) hQ hy h1
      have sub : ∀ k, (listed.setIfInBounds j true).getD k true = false → listed.getD k true = false := fun k hun => by
        by_cases hjk : j = k
        · subst hjk; exact hjun
        · rw [getD_set_ne true hjk] at hun; exact hun
      have hsp : f.spoil j = false := hdm.dm hj hji
      refine wpOp_mono (fun a' w' h3 => ?_) h2
      obtain ⟨h3, h4, h5⟩ := h3
      refine ⟨fun g hg => h4 g (List.mem_cons_of_mem _ hg), ih _ (listed.setIfInBounds j true) a' w' (fun k ok hk hki hun hno => hfree k ok hk hki (sub k hun) hno) (hdm.set hj hji) (ready_mono hr (Ne.symm hji)) h3 (h4 f (List.mem_cons_self ..) hsp hS) ?_⟩
      rw [Array.setIfInBounds_comm _ _ hji]
      rw [List.filter_cons, if_pos (by rw [hsp]; rfl)] at h5
      exact h5

theorem wp_region_F {id : Nat} {a : Act} {w : World} (hm : P.follows .mixedOrders = true)
    (h : wpAnyF P .any ops Q ops.size [] (Array.replicate ops.size false) a { w with drawn := w.drawn + 1 }) : (Code.region id ops true).wp P Q a w :=
  wp_region_any hm (wpAny_of_F _ _ _ _ _ h)
end

inductive Stp where
  | w (i : Nat) (T : List Nat)   -- a look into memory, taken first; T: it and what comes behind it
  | p (i : Nat)   -- taken first; it looks into no memory
  | o (i : Nat)   -- the only one that may come
  | a (i : Nat)   -- a hidden variable is made, here at the latest
  | e (i j : Nat)   -- two that may come in either order, both make something new

def Stp.no : Stp → Nat
  | .w i _ | .p i | .o i | .a i | .e i _ => i
def stepsN : List Stp → Nat
  | [] => 0
  | .e _ _ :: r => stepsN r + 2
  | _ :: r => stepsN r + 1
theorem stepsN_one {st : Stp} (h : ∀ i j, st ≠ .e i j) (r : List Stp) : stepsN (st :: r) = stepsN r + 1 := by
  cases st with
  | e i j => exact absurd rfl (h i j)
  | _ => rfl

def isLe (ρ : Slots) (o : Op) : Bool :=
  isSil o || match o with
    | .alloc _ | .box .. | .buildSlice .. | .makeSlice .. | .makeMap .. => true
    | .store _ a _ => match ev ρ a with
      | .box .. | .boxi .. => true
      | _ => false
    | _ => false

def le (h h' : Heap) : Prop := ∀ b o, h b = some o → h' b = some o
theorem le.refl (h : Heap) : le h h := fun _ _ e => e
theorem le.trans {h1 h2 h3 : Heap} (a : le h1 h2) (b : le h2 h3) : le h1 h3 := fun x o e => b x o (a x o e)
theorem le_upd {h : Heap} {b : Nat} (e : h b = none) (o : HObj) : le h (upd h b o) := fun x y hx => by
  rw [upd_ne]
  · exact hx
  · intro c; subst c; rw [e] at hx; cases hx
theorem effI_le {P : Program} {F : List Nat} {hid : Bool} {o : Oper} {ρ : Slots} {β : Boxes} {h : Heap} {K : Slots → Boxes → Heap → Prop} (hs : isSil o.op = false) (hl : isLe ρ o.op = true)
    (hm : effI P F hid o ρ β h K) : effI P F hid o ρ β h fun ρ' β' h' => le h h' ∧ K ρ' β' h' := by
  unfold isLe at hl
  rw [hs] at hl
  simp only [Bool.false_or] at hl
  unfold effI at hm ⊢
  have hhide : ∀ {d : Option Nat} {l : List Ent}, hideI F d l ρ β h K → hideI F d l ρ β h fun ρ' β' h' => le h h' ∧ K ρ' β' h' := by
    intro d l hh
    unfold hideI at hh ⊢
    split at hh
    · rename_i d
      cases hf : F.contains d
      · rw [hf] at hh; exact ⟨le.refl h, hh⟩
      · rw [hf] at hh; exact hh.elim
    · exact hh.elim
  have hnew : ∀ {l : List Value} {g : Addr → TV}, new h l (fun a h' => K (putS ρ o.dst (g a)) β h') → new h l (fun a h' => le h h' ∧ K (putS ρ o.dst (g a)) β h') := by
    intro l g hh b hb
    exact ⟨le_upd hb _, hh b hb⟩
  split at hm
  · split at hm
    · rename_i k hk
      cases hid
      · simp only [cond_false] at hm ⊢; exact hnew (g := fun a => .v .ptr (some a)) hm
      · simp only [cond_true] at hm ⊢; exact hhide hm
    · exact hm.elim
  · split at hm
    · rename_i k hk
      split at hm
      · rename_i y hy
        refine plainOr_mono hm fun hm => ?_
        cases hid
        · simp only [cond_false] at hm ⊢; exact hnew (g := fun a => .v .ptr (some a)) hm
        · simp only [cond_true] at hm ⊢; exact hhide hm
      · exact hm.elim
    · exact hm.elim
  · rename_i T a x ho
    rw [ho] at hl
    simp only at hl
    unfold storeI at hm ⊢
    split at hm
    · rename_i k hk
      split at hm
      · rename_i y hy
        have fl : ∀ {p : Prop}, flatOr k y p → flatOr k y (le h h ∧ p) := by
          intro p q
          unfold flatOr at q ⊢
          cases hfl : k.flat
          · rw [hfl] at q; exact ⟨q.1, le.refl h, q.2⟩
          · rw [hfl] at q; exact ⟨le.refl h, q⟩
        split at hm
        · rename_i e; rw [e] at hl; cases hl
        · rename_i i off e
          cases hf : F.contains i
          · rw [hf] at hm
            simp only [cond_false] at hm ⊢
            split at hm
            · split at hm
              · exact fl hm
              · exact hm.elim
            · exact hm.elim
          · rw [hf] at hm; exact hm.elim
        · rename_i i off n' sz ix e
          cases hf : F.contains i
          · rw [hf] at hm
            simp only [cond_false] at hm ⊢
            split at hm
            · split at hm
              · split at hm
                · cases hz : Nat.beq k.size sz
                  · rw [hz] at hm; exact hm.elim
                  · rw [hz] at hm; exact fl hm
                · exact hm.elim
              · exact hm.elim
            · exact hm.elim
          · rw [hf] at hm; exact hm.elim
        · exact hm.elim
      · exact hm.elim
    · exact hm.elim
  · rename_i T len parts ho
    unfold litI at hm ⊢
    split at hm
    · split at hm
      · rename_i k hk
        split at hm
        · rename_i xs hxs
          cases c : (Nat.beq xs.length len && Nat.ble (len * k.size) 16777216 && k.plain && !(Nat.beq k.size 0))
          · rw [c] at hm; exact hm.elim
          · rw [c] at hm
            exact fun b hb => ⟨le_upd hb _, hm b hb⟩
        · exact hm.elim
      · exact hm.elim
    · exact hm.elim
  · unfold makeI at hm ⊢
    split at hm
    · split at hm
      · rename_i k i hk hi
        cases hz : Nat.beq k.size 0
        · rw [hz] at hm
          simp only [cond_false] at hm ⊢
          split at hm
          · exact ⟨hm.1, fun b hb => ⟨le_upd hb _, hm.2 b hb⟩⟩
          · exact hm.elim
        · rw [hz] at hm; exact hm.elim
      · exact hm.elim
    · exact hm.elim
  · rename_i T ho
    unfold mkMapI at hm ⊢
    split at hm
    · exact fun b hb => ⟨le_upd hb _, hm b hb⟩
    · exact hm.elim
  · rename_i ho; rw [ho] at hl; cases hl
  · rename_i ho; rw [ho] at hl; cases hl
  · rename_i ho; rw [ho] at hl; cases hl
  · rename_i ho; rw [ho] at hl; cases hl
  · rename_i ho; rw [ho] at hl; cases hl
  · rename_i ho; rw [ho] at hl; cases hl
  · rename_i ho; rw [ho] at hl; cases hl
  · exact hm.elim

def pendOf : List Stp → Option Nat
  | [] => none
  | .a i :: _ => some i
  | _ :: r => pendOf r
def junkP (ops : Array Oper) (p : Option Nat) (ρ : Slots) : Slots :=
  match p with
  | some i => match ops[i]? with
    | some o => putS ρ o.dst .junk
    | none => ρ
  | none => ρ
def pendOk (P : Program) (n : Nat) (F : List Nat) (ops : Array Oper) : Option Nat → Bool
  | none => true
  | some i => match ops[i]? with
    | some o => o.guard.isNone && (match o.op, o.dst with
      | .alloc T, some d => (kdOf P D T).isSome && !(F.contains d) && dstOk n (some d)
      | _, _ => false)
    | none => false
inductive Watch where
  | hp (T : List Nat) (p : Option Addr) (k : Kd) (x : Den k)
  | bx (T : List Nat) (d : Nat) (l : List Ent)
def Watch.T : Watch → List Nat
  | .hp T _ _ _ => T
  | .bx T _ _ => T
def wadd (T : List Nat) (a : TV) (β : Boxes) (v : TV) (ws : List Watch) : List Watch :=
  match a with
  | .v .ptr p => match v with
    | .v k x => .hp T p k x :: ws
    | _ => ws
  | .box d _ => match look β d with
    | some l => .bx T d l :: ws
    | none => ws
  | .boxi d _ _ _ _ => match look β d with
    | some l => .bx T d l :: ws
    | none => ws
  | _ => ws
def wdel (i : Nat) (ws : List Watch) : List Watch := ws.filter fun w => !(w.T.contains i)
def tch (ρ : Slots) (o : Oper) (d : Nat) : Bool :=
  o.dst.toList.contains d || match o.op with
    | .store _ a _ => match ev ρ a with
      | .box i _ => Nat.beq i d
      | .boxi i _ _ _ _ => Nat.beq i d
      | _ => false
    | _ => false
def wbox (ρ : Slots) (o : Oper) : List Watch → Bool
  | [] => true
  | .bx _ d _ :: r => !(tch ρ o d) && wbox ρ o r
  | _ :: r => wbox ρ o r
def sees (h : Heap) (p : Option Addr) (k : Kd) (x : Den k) : Prop :=
  match p with
  | some a => cellsAt h a (k.cells x)
  | none => True
def obl (h : Heap) : List Watch → Prop → Prop
  | [], p => p
  | .hp _ q k x :: r, p => sees h q k x ∧ obl h r p
  | .bx _ _ _ :: r, p => obl h r p

def stO (P : Program) (n : Nat) (F : List Nat) (ops : Array Oper) (hid : List Nat) (i : Nat) (p : Option Nat) (ws : List Watch) (ρ : Slots) (β : Boxes) (h : Heap) (C : List Watch → Slots → Boxes → Heap → Prop) : Prop :=
  match ops[i]? with
  | none => False
  | some o => bif dstOk n o.dst && o.guard.isNone && !(isSil o.op) && isLe (junkP ops p ρ) o.op then (bif wbox (junkP ops p ρ) o (wdel i ws) then effI P F (hid.contains i) o (junkP ops p ρ) β h fun ρ' β' h' => C (wdel i ws) ρ' β' h' else False) else False

def regDI (P : Program) (n : Nat) (F : List Nat) (ops : Array Oper) (hid pk : List Nat) : List Stp → List Watch → Slots → Boxes → Heap → (Slots → Boxes → Heap → Prop) → Prop
  | [], _, ρ, β, h, K => K ρ β h
  | s :: r, ws, ρ, β, h, K => match ops[s.no]? with
    | none => False
    | some o => bif dstOk n o.dst then guardI ops o (junkP ops (pendOf (s :: r)) ρ) fun ρ want =>
      bif want then match s with
        | .w _ T => match o.op with
          | .load Ty x => loadM P Ty (ev ρ x) β h fun v => regDI P n F ops hid pk r (wadd T (ev ρ x) β v ws) (putS ρ o.dst v) β h K
          | _ => False
        | .p _ => bif isSil o.op then silM P o.op ρ [] (fun _ => none) fun v => regDI P n F ops hid pk r ws (putS ρ o.dst v) β h K else False
        | .o i => bif isSil o.op then silM P o.op ρ β h fun v => regDI P n F ops hid pk r ws (putS ρ o.dst v) β h K
          else bif wbox ρ o (wdel i ws) then effI P F (hid.contains i) o ρ β h fun ρ' β' h' => bif isLe ρ o.op then regDI P n F ops hid pk r (wdel i ws) ρ' β' h' K else obl h' (wdel i ws) (regDI P n F ops hid pk r (wdel i ws) ρ' β' h' K)
            else False
        | .e i j => stO P n F ops hid i (pendOf r) ws ρ β h (fun ws1 ρ1 β1 h1 => stO P n F ops hid j (pendOf r) ws1 ρ1 β1 h1 fun ws2 ρ2 β2 h2 => regDI P n F ops hid pk r ws2 ρ2 β2 h2 K) ∧
            stO P n F ops hid j (pendOf r) ws ρ β h (fun ws1 ρ1 β1 h1 => stO P n F ops hid i (pendOf r) ws1 ρ1 β1 h1 fun ws2 ρ2 β2 h2 => regDI P n F ops hid pk r ws2 ρ2 β2 h2 K)
        | .a i => bif isSil o.op then False else bif wbox ρ o ws && β.all (fun p => !(F.contains p.1) || pk.contains p.1) then effI P F true o ρ β h fun ρ β h => regDI P n F ops hid pk r ws ρ β h K else False
      else regDI P n F ops hid pk r ws (putS ρ o.dst .und) β h K
      else False

def behindOk (ops : Array Oper) (listed : Array Bool) (i : Nat) (T : List Nat) : Bool :=
  T.all fun j => !(listed.getD j true) && (j == i || (match ops[j]? with | some oj => oj.after.any fun e => Region.binds .any e && T.contains e.on | none => false))
def chk (ops : Array Oper) (E : List Nat) : Stp → Array Bool → Bool
  | .w i T, listed => (Region.ready .any ops listed).contains i && Region.free .any ops listed i && behindOk ops listed i T
  | .p i, listed => (Region.ready .any ops listed).contains i && Region.free .any ops listed i
  | .o i, listed => (Region.ready .any ops listed).contains i && (Region.ready .any ops listed).all fun j => j == i || E.contains j
  | .a i, listed => (Region.ready .any ops listed).contains i && (Region.ready .any ops listed).all fun j => j == i
  | .e _ _, _ => false
def onlyR (ops : Array Oper) (L : List Nat) (i : Nat) (listed : Array Bool) : Bool := (Region.ready .any ops listed).contains i && (Region.ready .any ops listed).all fun j => L.contains j
def plainO (ops : Array Oper) (i : Nat) : Bool := match ops[i]? with
  | some o => o.guard.isNone
  | none => false
def apartD (ops : Array Oper) (i j : Nat) : Bool :=
  match ops[i]?, ops[j]? with
  | some a, some b => match a.dst, b.dst with
    | some x, some y => !(Nat.beq x y)
    | _, _ => true
  | _, _ => false
def stepsOk (ops : Array Oper) : Option Nat → List Stp → Array Bool → Bool
  | none, [], listed => (Region.ready .any ops listed).isEmpty
  | some _, [], _ => false
  | none, .a _ :: _, _ => false
  | none, .e x y :: r, listed => plainO ops x && onlyR ops [x, y] x listed && onlyR ops [y] y (listed.setIfInBounds x true) && onlyR ops [x] x (listed.setIfInBounds y true) && stepsOk ops none r ((listed.setIfInBounds x true).setIfInBounds y true) && stepsOk ops none r ((listed.setIfInBounds y true).setIfInBounds x true)
  | none, s :: r, listed => chk ops [] s listed && stepsOk ops none r (listed.setIfInBounds s.no true)
  | some i, .a j :: r, listed => Nat.beq i j && chk ops [] (.a j) listed && stepsOk ops none r (listed.setIfInBounds j true)
  | some i, .e x y :: r, listed => plainO ops x && !(Nat.beq x i) && !(Nat.beq y i) && apartD ops x i && apartD ops y i && onlyR ops [x, y, i] x listed && onlyR ops [y, i] y (listed.setIfInBounds x true) && onlyR ops [x, i] x (listed.setIfInBounds y true) &&
      onlyR ops [x, y] x (listed.setIfInBounds i true) && onlyR ops [y] y ((listed.setIfInBounds x true).setIfInBounds i true) && onlyR ops [x] x ((listed.setIfInBounds y true).setIfInBounds i true) &&
      stepsOk ops (some i) r ((listed.setIfInBounds x true).setIfInBounds y true) && stepsOk ops (some i) r ((listed.setIfInBounds y true).setIfInBounds x true)
  | some i, s :: r, listed => !(Nat.beq s.no i) && apartD ops s.no i && chk ops [i] s listed && chk ops [] s (listed.setIfInBounds i true) && stepsOk ops (some i) r (listed.setIfInBounds s.no true)

end Go.Mx

namespace Go.Mx

theorem effI_sound {P : Program} {D0 : List Deferred} {h0 : Heap} {w0 : World} {n : Nat} {F : List Nat} {Z : Nat → Prop} {κ : Nat → Nat} {ρ : Slots} {β : Boxes} {h : Heap} {a : Act} {w : World} {o : Oper}
    {K : Slots → Boxes → Heap → Prop} (s : St D0 h0 w0 n F Z κ ρ β h a w) (hd : dstOk n o.dst = true) {hid : Bool} (hs : isSil o.op = false) (hm : effI P F hid o ρ β h K) :
    o.wp P a w (OpPost D0 h0 w0 n F Z o.dst κ a w K) NoExit := by
  refine opI_sound s hd (hid := hid) ?_
  unfold opI
  rw [hd, hs]
  exact hm

theorem cell_le' {h h' : Heap} (l : le h h') {a : Addr} {v : Value} (c : cell h a = some v) : cell h' a = some v := by
  unfold cell at c ⊢
  split at c
  · rename_i cs ro e
    rw [l _ _ e]; exact c
  · cases c
theorem emptySub (w : World) : Sub (fun _ => none) w := fun b o e => by cases e

theorem behind_spec {ops : Array Oper} {listed : Array Bool} {i : Nat} {T : List Nat} (h : behindOk ops listed i T = true) : Behind .any ops (fun j => T.contains j) listed i := by
  simp only [behindOk, List.all_eq_true, Bool.and_eq_true, Bool.not_eq_true', Bool.or_eq_true, beq_iff_eq] at h
  refine ⟨fun j => j ∈ T, fun j hj => (h j hj).1, fun j hj hji => ?_, fun j oj hj hji hun hT => by simpa using hT⟩
  rcases (h j hj).2 with c | c
  · exact absurd c hji
  · split at c
    · rename_i oj hoj
      obtain ⟨e, he, hb⟩ := Array.any_eq_true'.1 c
      simp only [Bool.and_eq_true] at hb
      exact ⟨oj, hoj, e, he, hb.1, by simpa using hb.2⟩
    · cases c
theorem behind_none {ops : Array Oper} {listed : Array Bool} {i : Nat} : Behind .any ops (fun _ => false) listed i :=
  ⟨fun _ => False, fun _ h => h.elim, fun _ h => h.elim, fun _ _ _ _ _ _ => rfl⟩

abbrev anyFact : Fact := ⟨fun _ => True, fun _ => false⟩
theorem wpAnyF_any {P : Program} {md : Region.Mode} {ops : Array Oper} {Q : Exit → Act → World → Prop} : ∀ (fuel : Nat) {Fs : List Fact} {listed : Array Bool} {a : Act} {w : World}, wpAnyF P md ops Q fuel Fs listed a w → wpAnyF P md ops Q fuel (anyFact :: Fs) listed a w
  | 0, _, _, _, _, h => h
  | fuel + 1, Fs, _, _, _, h => ⟨h.1, fun i hi => wpOp_mono (fun a' w' h' => ⟨fun f hf => by
      rcases List.mem_cons.1 hf with rfl | hf
      · exact fun _ _ => trivial
      · exact h'.1 f hf, by
      rw [List.filter_cons, if_pos (show (!anyFact.spoil i) = true from rfl)]
      exact wpAnyF_any fuel h'.2⟩) (h.2 i hi)⟩

def factOf (κ : Nat → Nat) : Watch → Fact
  | .hp T p k x => ⟨fun w => ∀ a, p = some a → ∀ j v, (k.cells x)[j]? = some v → w.cell? (a.add j) = some v, fun j => T.contains j⟩
  | .bx T d l => ⟨fun w => ∃ t, w.heap[κ d]? = some (.cells (entCells l).toArray t (0, 0)), fun j => T.contains j⟩
theorem factOf_spoil (κ : Nat → Nat) (x : Watch) : (factOf κ x).spoil = fun j => x.T.contains j := by cases x <;> rfl
def WOk (β : Boxes) (h : Heap) : Watch → Prop
  | .hp T p k x => sees h p k x
  | .bx T d l => look β d = some l
theorem WOk.holds {κ : Nat → Nat} {β : Boxes} {h : Heap} {w : World} (s : SB κ β h w) {x : Watch} (ok : WOk β h x) : (factOf κ x).holds w := by
  cases x with
  | hp T p k x =>
    intro a e j v hj
    unfold WOk sees at ok
    subst e
    exact cell_sound s.sub (ok j v hj)
  | bx T d l => exact s.box d l ok

theorem load_watch {P : Program} {κ : Nat → Nat} {β : Boxes} {h : Heap} {Ty : TypeId} {x : TV} {K : TV → Prop} (hm : loadM P Ty x β h K) {u : Value} (hu : Rl κ x u) (T : List Nat) (ws : List Watch) :
    ∃ tv r wt, K tv ∧ Rl κ tv r ∧ wadd T x β tv ws = wt :: ws ∧ wt.T = T ∧ WOk β h wt ∧ ∀ w, (factOf κ wt).holds w → (Instr.loadAt Ty u).run P w = .ok r w := by
  have hm0 := hm
  unfold loadM at hm
  split at hm
  · rename_i k hk
    split at hm
    · rename_i p
      obtain rfl := hu
      unfold deref at hm
      split at hm
      · rename_i a
        obtain ⟨y, hc, hK⟩ := hm
        refine ⟨_, k.val y, .hp T (some a) k y, hK, rfl, rfl, rfl, hc, fun w hw => ?_⟩
        simp only [Instr.loadAt, Kd.val, Instr.sureAddr, Sem.run_bind, Sem.run_pure, Result.andThen_ok]
        exact run_loadVar hk (fun j v e => hw a rfl j v e)
      · cases hm
    · rename_i i off
      split at hm
      · rename_i l hl
        have hm1 : loadM P Ty (.box i off) [(i, l)] (fun _ => none) (fun tv => K tv ∧ wadd T (.box i off) β tv ws = .bx T i l :: ws) := by
          unfold loadM at hm0 ⊢
          rw [hk] at hm0 ⊢
          simp only [look, Nat.beq_refl, cond_true] at hm0 ⊢
          rw [hl] at hm0
          simp only at hm0
          split at hm0
          · exact ⟨hm0, by simp [wadd, hl]⟩
          · exact hm0.elim
        obtain ⟨tv, r, h1, h2, h3⟩ := loadM_sound hm1 hu
        refine ⟨tv, r, .bx T i l, h1.1, h2, h1.2, rfl, hl, fun w hw => h3 w ⟨emptySub w, fun j m e => ?_⟩⟩
        simp only [look] at e
        by_cases c : j = i
        · subst c; simp at e; subst e; exact hw
        · rw [beq_no c] at e; cases e
      · exact hm.elim
    · rename_i i off n sz ix
      split at hm
      · rename_i l hl
        have hm1 : loadM P Ty (.boxi i off n sz ix) [(i, l)] (fun _ => none) (fun tv => K tv ∧ wadd T (.boxi i off n sz ix) β tv ws = .bx T i l :: ws) := by
          unfold loadM at hm0 ⊢
          rw [hk] at hm0 ⊢
          simp only [look, Nat.beq_refl, cond_true] at hm0 ⊢
          rw [hl] at hm0
          simp only at hm0
          split at hm0
          · cases hz : Nat.beq k.size sz
            · rw [hz] at hm0; exact hm0.elim
            · rw [hz] at hm0
              exact ⟨hm0, by simp [wadd, hl]⟩
          · exact hm0.elim
        obtain ⟨tv, r, h1, h2, h3⟩ := loadM_sound hm1 hu
        refine ⟨tv, r, .bx T i l, h1.1, h2, h1.2, rfl, hl, fun w hw => h3 w ⟨emptySub w, fun j m e => ?_⟩⟩
        simp only [look] at e
        by_cases c : j = i
        · subst c; simp at e; subst e; exact hw
        · rw [beq_no c] at e; cases e
      · exact hm.elim
    · exact hm.elim
  · exact hm.elim

theorem effI_keep {P : Program} {F : List Nat} {hid : Bool} {o : Oper} {ρ : Slots} {β : Boxes} {h : Heap} {K : Slots → Boxes → Heap → Prop} (hm : effI P F hid o ρ β h K) :
    effI P F hid o ρ β h fun ρ' β' h' => (∀ d, tch ρ o d = false → look β' d = look β d) ∧ K ρ' β' h' := by
  have hhide : ∀ {l : List Ent}, hideI F o.dst l ρ β h K → hideI F o.dst l ρ β h fun ρ' β' h' => (∀ d, tch ρ o d = false → look β' d = look β d) ∧ K ρ' β' h' := by
    intro l hh
    unfold hideI at hh ⊢
    split at hh
    · rename_i d e
      cases hf : F.contains d
      · rw [hf] at hh
        refine ⟨fun c hc => ?_, hh⟩
        unfold tch at hc
        rw [Bool.or_eq_false_iff, e] at hc
        have hcd : c ≠ d := fun x => by subst x; simp at hc
        simp only [look]
        rw [beq_no hcd]
        rfl
      · rw [hf] at hh; exact hh.elim
    · exact hh.elim
  unfold effI at hm ⊢
  split at hm
  · split at hm
    · cases hid
      · simpa using hm
      · simp only [cond_true] at hm ⊢; exact hhide hm
    · exact hm.elim
  · split at hm
    · rename_i k hk
      split at hm
      · refine plainOr_mono hm fun hm => ?_
        cases hid
        · simpa using hm
        · simp only [cond_true] at hm ⊢; exact hhide hm
      · exact hm.elim
    · exact hm.elim
  · rename_i T a x ho
    have ht : ∀ d, tch ρ o d = false → (match ev ρ a with | .box i _ => Nat.beq i d | .boxi i _ _ _ _ => Nat.beq i d | _ => false) = false := by
      intro d hd
      unfold tch at hd
      rw [Bool.or_eq_false_iff, ho] at hd
      exact hd.2
    unfold storeI at hm ⊢
    split at hm
    · rename_i k hk
      split at hm
      · rename_i y hy
        have fl : ∀ {p q : Prop}, q → flatOr k y p → flatOr k y (q ∧ p) := by
          intro p q hq hf
          unfold flatOr at hf ⊢
          cases hfl : k.flat
          · rw [hfl] at hf; exact ⟨hf.1, hq, hf.2⟩
          · rw [hfl] at hf; exact ⟨hq, hf⟩
        split at hm
        · simpa using hm
        · rename_i i off e
          have hl : ∀ (m : List Ent) (d : Nat), tch ρ o d = false → look ((i, m) :: β) d = look β d := by
            intro m d hd
            have := ht d hd
            rw [e] at this
            have hdi : d ≠ i := fun c => by subst c; simp at this
            simp only [look]
            rw [beq_no hdi]
            rfl
          cases hf : F.contains i
          · rw [hf] at hm
            simp only [cond_false] at hm ⊢
            split at hm
            · split at hm
              · exact fl (hl _) hm
              · exact hm.elim
            · exact hm.elim
          · rw [hf] at hm; exact hm.elim
        · rename_i i off n' sz ix e
          have hl : ∀ (m : List Ent) (d : Nat), tch ρ o d = false → look ((i, m) :: β) d = look β d := by
            intro m d hd
            have := ht d hd
            rw [e] at this
            have hdi : d ≠ i := fun c => by subst c; simp at this
            simp only [look]
            rw [beq_no hdi]
            rfl
          cases hf : F.contains i
          · rw [hf] at hm
            simp only [cond_false] at hm ⊢
            split at hm
            · split at hm
              · split at hm
                · cases hz : Nat.beq k.size sz
                  · rw [hz] at hm; exact hm.elim
                  · rw [hz] at hm; exact fl (hl _) hm
                · exact hm.elim
              · exact hm.elim
            · exact hm.elim
          · rw [hf] at hm; exact hm.elim
        · exact hm.elim
      · exact hm.elim
    · exact hm.elim
  · simpa using hm
  · simpa using hm
  · simpa using hm
  · simpa using hm
  · simpa using hm
  · simpa using hm
  · simpa using hm
  · simpa using hm
  · simpa using hm
  · split at hm
    · simpa using hm
    · simpa using hm
    · simpa using hm
    · simpa using hm
    · simpa using hm
    · simpa using hm
    · exact hm.elim
  · exact hm.elim

theorem mem_wdel {i : Nat} {ws : List Watch} {x : Watch} (h : x ∈ wdel i ws) : x ∈ ws ∧ x.T.contains i = false := by
  unfold wdel at h
  rw [List.mem_filter] at h
  exact ⟨h.1, by simpa using h.2⟩
theorem wbox_spec {ρ : Slots} {o : Oper} : ∀ {ws : List Watch}, wbox ρ o ws = true → ∀ {T d l}, Watch.bx T d l ∈ ws → tch ρ o d = false
  | .hp _ _ _ _ :: r, h, T, d, l, hx => by
    simp only [List.mem_cons, reduceCtorEq, false_or] at hx
    exact wbox_spec (ws := r) h hx
  | .bx _ e _ :: r, h, T, d, l, hx => by
    simp only [wbox, Bool.and_eq_true, Bool.not_eq_true'] at h
    rcases List.mem_cons.1 hx with c | c
    · cases c; exact h.1
    · exact wbox_spec (ws := r) h.2 c
theorem obl_spec {h : Heap} {p : Prop} : ∀ {ws : List Watch}, obl h ws p → p ∧ ∀ {T q k x}, Watch.hp T q k x ∈ ws → sees h q k x
  | [], hp => ⟨hp, fun hx => by cases hx⟩
  | .hp _ _ _ _ :: r, hp => by
    obtain ⟨h1, h2⟩ := hp
    obtain ⟨h3, h4⟩ := obl_spec (ws := r) h2
    refine ⟨h3, fun hx => ?_⟩
    rcases List.mem_cons.1 hx with c | c
    · cases c; exact h1
    · exact h4 c
  | .bx _ _ _ :: r, hp => by
    obtain ⟨h3, h4⟩ := obl_spec (ws := r) hp
    refine ⟨h3, fun hx => ?_⟩
    simp only [List.mem_cons, reduceCtorEq, false_or] at hx
    exact h4 hx

def dstL (ops : Array Oper) (i : Nat) : List Nat :=
  match ops[i]? with
  | some o => o.dst.toList
  | none => []
theorem dstL_in {ops : Array Oper} {i t : Nat} (h : (wrR ops).contains t = false) : (dstL ops i).contains t = false := by
  unfold dstL
  split
  · rename_i o ho
    exact mem_wrR ho h
  · rfl
theorem Fr.dstL {W F Z κ a w κ1 a1 w1} {ops : Array Oper} {i : Nat} (x : Fr (Go.Mx.dstL ops i) F Z κ a w κ1 a1 w1) (hW : W = wrR ops) : Fr W F Z κ a w κ1 a1 w1 := by
  subst hW
  exact x.mono (fun t ht => dstL_in ht) (fun _ e => e) (fun _ e => e)
theorem St.junkP {D0 h0 w0 n F Z κ ρ β h a w} (s : St D0 h0 w0 n F Z κ ρ β h a w) (ops : Array Oper) (p : Option Nat) : St D0 h0 w0 n F Z κ (Go.Mx.junkP ops p ρ) β h a w := by
  unfold Go.Mx.junkP
  split
  · split
    · rename_i o ho
      cases o.dst with
      | none => exact s
      | some d => exact s.setSlot d .junk trivial
    · exact s
  · exact s

theorem look_mem {β : Boxes} {i : Nat} {l : List Ent} (h : look β i = some l) : (β.map (·.1)).contains i = true := by
  induction β with
  | nil => cases h
  | cons p β ih =>
    obtain ⟨j, m⟩ := p
    simp only [look] at h
    by_cases c : i = j
    · subst c; simp
    · rw [beq_no c] at h
      have := ih h
      simp at this ⊢
      exact .inr this

theorem St.adopt {D0 h0 w0 n F Z κ ρ β h a w} {b : Nat} (s : St D0 h0 w0 n F (fun x => Z x ∨ x = b) κ ρ β h a w) {d : Nat} (hf : F.contains d = false) {l : List Ent} {T : TypeId}
    (hb : w.heap[b]? = some (.cells (entCells l).toArray T (0, 0))) (hb0 : w0.heap.size ≤ b) (hZb : ¬ Z b) (hne : ∀ j m, look β j = some m → κ j ≠ b) (hp : a.tmps.getD d undef = .pointer (some ⟨b, 0, none⟩)) :
    ∃ κ', St D0 h0 w0 n F Z κ' (putS (fun t => wipe1 d (ρ t)) (some d) (.box d 0)) ((d, l) :: β) h a w ∧ Fr [d] F Z κ a w κ' a w := by
  refine ⟨fun i => if i = d then b else κ i, ⟨s.inv, fun i m e => ?_, fun i j m m' e1 e2 e => ?_, fun x hx => s.z x (.inl hx), fun i m e hz => ?_, s.size, fun t => ?_, s.defers⟩, ⟨fun _ _ => rfl, fun i hi => ?_, fun _ _ => rfl⟩⟩
  · simp only [look] at e
    by_cases c : i = d
    · subst c
      simp at e; subst e
      simp only [if_true]
      exact ⟨⟨T, hb⟩, (s.z b (.inr rfl)).2, hb0⟩
    · rw [beq_no c] at e
      simp only [cond_false] at e
      simp only [if_neg c]
      exact s.box i m e
  · simp only [look] at e1 e2
    by_cases c1 : i = d <;> by_cases c2 : j = d
    · rw [c1, c2]
    · rw [beq_no c2] at e2
      simp only [cond_false] at e2
      simp only [c1, if_true, if_neg c2] at e
      exact absurd e.symm (hne j m' e2)
    · rw [beq_no c1] at e1
      simp only [cond_false] at e1
      simp only [c2, if_true, if_neg c1] at e
      exact absurd e (hne i m e1)
    · rw [beq_no c1] at e1
      rw [beq_no c2] at e2
      simp only [cond_false] at e1 e2
      simp only [if_neg c1, if_neg c2] at e
      exact s.inj i j m m' e1 e2 e
  · simp only [look] at e
    by_cases c : i = d
    · simp only [c, if_true] at hz
      exact absurd hz hZb
    · rw [beq_no c] at e
      simp only [cond_false] at e
      simp only [if_neg c] at hz
      exact s.zf i m e (.inl hz)
  · simp only [putS]
    by_cases c : t = d
    · subst c
      simp [Rl, hp]
    · rw [beq_no c]
      exact Rl_wipe (fun i hi => by simp [hi]) (s.slot t)
  · rcases hi with hi | hi
    · simp at hi
      simp [hi]
    · have : i ≠ d := fun e => by subst e; rw [hf] at hi; cases hi
      simp [this]

theorem regDI_junk {P : Program} {n : Nat} {F : List Nat} {ops : Array Oper} {hid pk : List Nat} {s : Stp} {r : List Stp} {ws : List Watch} {ρ : Slots} {β : Boxes} {h : Heap} {K : Slots → Boxes → Heap → Prop}
    (hm : regDI P n F ops hid pk (s :: r) ws ρ β h K) : regDI P n F ops hid pk (s :: r) ws (junkP ops (pendOf (s :: r)) ρ) β h K := by
  have e : junkP ops (pendOf (s :: r)) (junkP ops (pendOf (s :: r)) ρ) = junkP ops (pendOf (s :: r)) ρ := by
    cases pendOf (s :: r) with
    | none => rfl
    | some i =>
      simp only [junkP]
      cases ops[i]? with
      | none => rfl
      | some o =>
        simp only
        cases o.dst with
        | none => rfl
        | some d =>
          funext t
          simp only [putS]
          cases Nat.beq t d <;> rfl
  simp only [regDI] at hm ⊢
  rw [e]
  exact hm

theorem watch_step {ops : Array Oper} {κ κ' : Nat → Nat} {β β' : Boxes} {h h' : Heap} {w w' : World} {i : Nat} {ws : List Watch} (s : SB κ β h w) (s' : SB κ' β' h' w')
    (hw : ∀ x ∈ wdel i ws, WOk β h x) (hw' : ∀ x ∈ wdel i ws, WOk β' h' x) (hκ : ∀ x ∈ wdel i ws, factOf κ' x = factOf κ x) :
    (∀ f ∈ ws.map (factOf κ), f.spoil i = false → f.holds w → f.holds w') ∧ (ws.map (factOf κ)).filter (fun f => !f.spoil i) = (wdel i ws).map (factOf κ') := by
  refine ⟨fun f hf hsp _ => ?_, ?_⟩
  · obtain ⟨x, hx, rfl⟩ := List.mem_map.1 hf
    rw [factOf_spoil] at hsp
    have hm : x ∈ wdel i ws := by
      unfold wdel
      rw [List.mem_filter]
      exact ⟨hx, by simpa using hsp⟩
    rw [← hκ x hm]
    exact (hw' x hm).holds s'
  · rw [List.filter_map]
    have : ((fun f : Fact => !f.spoil i) ∘ factOf κ) = fun x : Watch => !(x.T.contains i) := by
      funext x
      simp only [Function.comp, factOf_spoil]
    rw [this]
    exact List.map_congr_left fun x hx => (hκ x hx).symm

theorem regDI_step {P : Program} {D0 : List Deferred} {h0 : Heap} {w0 : World} {n : Nat} {F : List Nat} {Z : Nat → Prop} {ops : Array Oper} {hid pk E : List Nat} {K : Slots → Boxes → Heap → Prop} {Q : Exit → Act → World → Prop}
    (hsel : Region.noSelect ops = true) (hQp : ∀ c a w, ¬ Q (.panic c) a w)
    {st : Stp} (hna : ∀ i, st ≠ .a i) (hne : ∀ i j, st ≠ .e i j) {r : List Stp} {fuel : Nat} {listed : Array Bool} {ws : List Watch} {κ ρ β h a w} (s : St D0 h0 w0 n F Z κ ρ β h a w) (hws : ∀ x ∈ ws, WOk β h x)
    (hst : chk ops E st listed = true) (hm : regDI P n F ops hid pk (st :: r) ws ρ β h K)
    (H : ∀ {ws' κ' ρ' β' h' a' w'}, St D0 h0 w0 n F Z κ' ρ' β' h' a' w' → Fr (dstL ops st.no) F Z κ a w κ' a' w' → (∀ x ∈ ws', WOk β' h' x) → regDI P n F ops hid pk r ws' ρ' β' h' K →
      wpAnyF P .any ops Q fuel (ws'.map (factOf κ')) (listed.setIfInBounds st.no true) a' w')
    (HE : ∀ e ∈ E, e ≠ st.no → e ∈ Region.ready .any ops listed → wpOp P ops Q e (fun a' w' => (∀ f ∈ ws.map (factOf κ), f.spoil e = false → f.holds w → f.holds w') ∧ wpAnyF P .any ops Q fuel ((ws.map (factOf κ)).filter fun f => !f.spoil e) (listed.setIfInBounds e true) a' w') a w) :
    wpAnyF P .any ops Q (fuel + 1) (ws.map (factOf κ)) listed a w := by
  simp only [regDI] at hm
  split at hm
  · exact hm.elim
  · rename_i o ho
    cases hd : dstOk n o.dst
    · rw [hd] at hm; exact hm.elim
    · rw [hd] at hm
      simp only [cond_true] at hm
      obtain ⟨ρ1, s1, hg⟩ := guardI_spec (s.junkP ops _) hm
      clear hm
      have hdl : Go.Mx.dstL ops st.no = o.dst.toList := by unfold Go.Mx.dstL; rw [ho]
      have quiet : ∀ {tv : TV} {u : Value}, Rl κ tv u → St D0 h0 w0 n F Z κ (putS ρ1 o.dst tv) β h (a.put o.dst u) w ∧ Fr (Go.Mx.dstL ops st.no) F Z κ a w κ (a.put o.dst u) w := by
        intro tv u hrl
        rw [hdl]
        exact s1.step (Inv.refl s1.inv.sub) hd hrl
      have first : ∀ {i : Nat} {f : Fact} {v : Value} {Fs : List Fact}, ops[i]? = some o → st.no = i → Region.free .any ops listed i = true → (Region.ready .any ops listed).contains i = true → Behind .any ops f.spoil listed i →
          YieldsIf P ops f.holds o v a → f.holds w → wpAnyF P .any ops Q fuel (f :: Fs) (listed.setIfInBounds st.no true) (a.put o.dst v) w → wpAnyF P .any ops Q (fuel + 1) Fs listed a w := by
        intro i f v Fs hoi hno hfree hrd hbeh hy hh hH
        subst hno
        exact wpAnyF_first hoi (Region.noSelect_spec hsel) (fun c a w hq => absurd hq (hQp c _ w)) _ _ _ _ _ (Region.free_spec hoi hfree) hbeh (by simpa using hrd) hy hh hH
      have only : ∀ {i : Nat} {K' : Act → World → Prop}, st.no = i → ((Region.ready .any ops listed).contains i && (Region.ready .any ops listed).all fun j => j == i || E.contains j) = true →
          wpOp P ops Q i (fun a' w' => (∀ f ∈ ws.map (factOf κ), f.spoil i = false → f.holds w → f.holds w') ∧ wpAnyF P .any ops Q fuel ((ws.map (factOf κ)).filter fun f => !f.spoil i) (listed.setIfInBounds i true) a' w') a w →
          wpAnyF P .any ops Q (fuel + 1) (ws.map (factOf κ)) listed a w := by
        intro i K' hno hrd hop
        simp only [Bool.and_eq_true] at hrd
        obtain ⟨c3, c5⟩ := hrd
        refine ⟨fun e => by rw [e] at c3; simp at c3, fun j hj => ?_⟩
        by_cases hji : j = i
        · subst hji; exact hop
        · have := List.all_eq_true.1 c5 j hj
          simp only [Bool.or_eq_true, beq_iff_eq, hji, false_or] at this
          exact HE j (by simpa using this) (by rw [hno]; exact hji) hj
      have stay : ∀ {i : Nat} {u : Value}, st.no = i → wpAnyF P .any ops Q fuel (ws.map (factOf κ)) (listed.setIfInBounds st.no true) (a.put o.dst u) w →
          (∀ f ∈ ws.map (factOf κ), f.spoil i = false → f.holds w → f.holds w) ∧ wpAnyF P .any ops Q fuel ((ws.map (factOf κ)).filter fun f => !f.spoil i) (listed.setIfInBounds i true) (a.put o.dst u) w := by
        intro i u hno hH
        subst hno
        exact ⟨fun _ _ _ e => e, wpAnyF_less _ (fun f hf => (List.mem_filter.1 hf).1) hH⟩
      cases hw : Region.wanted o (yielded ops a.tmps)
      · -- not wanted
        rw [hw] at hg
        simp only [cond_false] at hg
        obtain ⟨q1, q2⟩ := quiet (tv := .und) (u := undef) rfl
        have hy : ∀ S', YieldsIf P ops S' o undef a := fun S' => .inr ⟨hw, rfl⟩
        have hH := H q1 q2 hws hg
        cases st with
        | a i => exact absurd rfl (hna i)
        | e i j => exact absurd rfl (hne i j)
        | w i T =>
          simp only [chk, Bool.and_eq_true] at hst
          exact first ho rfl hst.1.2 hst.1.1 behind_none (hy _) trivial (wpAnyF_any _ hH)
        | p i =>
          simp only [chk, Bool.and_eq_true] at hst
          exact first ho rfl hst.2 hst.1 behind_none (hy _) trivial (wpAnyF_any _ hH)
        | o i =>
          have ho : ops[i]? = some o := ho
          refine only (i := i) (K' := fun _ _ => True) rfl hst ?_
          unfold wpOp
          rw [ho]
          simp only [hw, Bool.false_eq_true, if_false]
          exact stay rfl hH
      · -- wanted
        rw [hw] at hg
        simp only [cond_true] at hg
        cases st with
        | a i => exact absurd rfl (hna i)
        | e i j => exact absurd rfl (hne i j)
        | w i T =>
          simp only [chk, Bool.and_eq_true] at hst
          simp only at hg
          split at hg
          · rename_i Ty x hop
            obtain ⟨tv, u, wt, k1, k2, k3, k4, k5, k6⟩ := load_watch hg (s1.evOk.ev x) T ws
            obtain ⟨q1, q2⟩ := quiet k2
            rw [k3] at k1
            refine first (f := factOf κ wt) (v := u) ho rfl hst.1.2 hst.1.1 (by rw [factOf_spoil, k4]; exact behind_spec hst.2) (.inl ⟨hw, fun w' hS => ?_⟩) (k5.holds s1.sb) ?_
            · simp only [execOp, hop, Sem.run_bind, k6 w' hS, Result.andThen_ok, Sem.run_pure]
            · exact H (ws' := wt :: ws) q1 q2 (fun y hy => by
                rcases List.mem_cons.1 hy with rfl | hy
                · exact k5
                · exact hws y hy) k1
          · exact hg.elim
        | p i =>
          simp only [chk, Bool.and_eq_true] at hst
          simp only at hg
          cases hsil : isSil o.op
          · rw [hsil] at hg; exact hg.elim
          · rw [hsil] at hg
            simp only [cond_true] at hg
            obtain ⟨tv, u, k1, k2, k3⟩ := silM_sound hg s1.evOk
            obtain ⟨q1, q2⟩ := quiet k2
            have hsb : ∀ w', SB κ [] (fun _ => none) w' := fun w' => ⟨emptySub w', fun j l e => by cases e⟩
            exact first (f := anyFact) ho rfl hst.2 hst.1 behind_none (.inl ⟨hw, fun w' _ => k3 w' (hsb w')⟩) trivial (wpAnyF_any _ (H q1 q2 hws k1))
        | o i =>
          have ho : ops[i]? = some o := ho
          refine only (i := i) (K' := fun _ _ => True) rfl hst ?_
          unfold wpOp
          rw [ho]
          simp only [hw, if_true]
          simp only at hg
          cases hsil : isSil o.op
          · rw [hsil] at hg
            simp only [cond_false] at hg
            cases hwb : wbox ρ1 o (wdel i ws)
            · rw [hwb] at hg; exact hg.elim
            rw [hwb] at hg
            simp only [cond_true] at hg
            have hbx : ∀ {κ1 β1 h1 a1 w1}, Fr o.dst.toList F Z κ a w κ1 a1 w1 → (∀ d, tch ρ1 o d = false → look β1 d = look β d) → (∀ T q k x, Watch.hp T q k x ∈ wdel i ws → sees h1 q k x) →
                (∀ x ∈ wdel i ws, WOk β1 h1 x) ∧ ∀ x ∈ wdel i ws, factOf κ1 x = factOf κ x := by
              intro κ1 β1 h1 a1 w1 fr hk hh
              refine ⟨fun x hx => ?_, fun x hx => ?_⟩
              · cases x with
                | hp T q k y => exact hh T q k y hx
                | bx T d l =>
                  have := hws _ (mem_wdel hx).1
                  exact (hk d (wbox_spec hwb hx)).trans this
              · cases x with
                | hp T q k y => rfl
                | bx T d l =>
                  have hd := wbox_spec hwb hx
                  unfold tch at hd
                  rw [Bool.or_eq_false_iff] at hd
                  simp only [factOf, fr.id d (.inl hd.1)]
            by_cases hl : isLe ρ1 o.op = true
            · rw [hl] at hg
              simp only [cond_true] at hg
              have hwp := effI_sound s1 hd hsil (effI_keep (effI_le hsil hl hg))
              refine .inl (Oper.wp_weak (Oper.wp_mono (fun a1 w1 hp => ?_) hwp))
              obtain ⟨κ1, ρ2, β1, h1, p1, p2, p5, p3, p4⟩ := hp
              obtain ⟨b1, b2⟩ := hbx p2 p5 fun T q k x hx => by
                have := hws _ (mem_wdel hx).1
                unfold WOk sees at this
                unfold sees
                split
                · simp only at this; exact fun j v hj => cell_le' p3 (this j v hj)
                · trivial
              have b0 : ∀ x ∈ wdel i ws, WOk β h x := fun x hx => hws x (mem_wdel hx).1
              obtain ⟨g1, g2⟩ := watch_step (ops := ops) s1.sb p1.sb b0 b1 b2
              refine ⟨g1, ?_⟩
              rw [g2]
              exact H p1 (hdl ▸ p2) b1 p4
            · have hl' : isLe ρ1 o.op = false := by simpa using hl
              rw [hl'] at hg
              simp only [cond_false] at hg
              have hwp := effI_sound s1 hd hsil (effI_keep hg)
              refine .inl (Oper.wp_weak (Oper.wp_mono (fun a1 w1 hp => ?_) hwp))
              obtain ⟨κ1, ρ2, β1, h1, p1, p2, p5, p4⟩ := hp
              obtain ⟨p4, p6⟩ := obl_spec p4
              obtain ⟨b1, b2⟩ := hbx p2 p5 fun T q k x hx => p6 hx
              have b0 : ∀ x ∈ wdel i ws, WOk β h x := fun x hx => hws x (mem_wdel hx).1
              obtain ⟨g1, g2⟩ := watch_step (ops := ops) s1.sb p1.sb b0 b1 b2
              refine ⟨g1, ?_⟩
              rw [g2]
              exact H p1 (hdl ▸ p2) b1 p4
          · rw [hsil] at hg
            simp only [cond_true] at hg
            obtain ⟨tv, u, k1, k2, k3⟩ := silM_sound hg s1.evOk
            obtain ⟨q1, q2⟩ := quiet k2
            exact .inl (Oper.wp_weak (wp_of_run (k3 w s1.sb) (stay rfl (H q1 q2 hws k1))))

theorem stO_sound {P : Program} {D0 : List Deferred} {h0 : Heap} {w0 : World} {n : Nat} {F : List Nat} {Z : Nat → Prop} {ops : Array Oper} {hid : List Nat} {Q : Exit → Act → World → Prop} {i : Nat} {p : Option Nat} {C : List Watch → Slots → Boxes → Heap → Prop}
    {fuel : Nat} {listed : Array Bool} {ws : List Watch} {κ ρ β h a w} (s : St D0 h0 w0 n F Z κ ρ β h a w) (hws : ∀ x ∈ ws, WOk β h x) (hm : stO P n F ops hid i p ws ρ β h C)
    (H : ∀ {ws' κ' ρ' β' h' a' w'}, St D0 h0 w0 n F Z κ' ρ' β' h' a' w' → Fr (dstL ops i) F Z κ a w κ' a' w' → (∀ x ∈ ws', WOk β' h' x) → C ws' ρ' β' h' → wpAnyF P .any ops Q fuel (ws'.map (factOf κ')) (listed.setIfInBounds i true) a' w') :
    wpOp P ops Q i (fun a' w' => (∀ f ∈ ws.map (factOf κ), f.spoil i = false → f.holds w → f.holds w') ∧ wpAnyF P .any ops Q fuel ((ws.map (factOf κ)).filter fun f => !f.spoil i) (listed.setIfInBounds i true) a' w') a w := by
  unfold stO at hm
  split at hm
  · exact hm.elim
  · rename_i o ho
    cases hc : (dstOk n o.dst && o.guard.isNone && !(isSil o.op) && isLe (Go.Mx.junkP ops p ρ) o.op)
    · rw [hc] at hm; exact hm.elim
    rw [hc] at hm
    simp only [cond_true] at hm
    simp only [Bool.and_eq_true, Bool.not_eq_true', Option.isNone_iff_eq_none] at hc
    obtain ⟨⟨⟨hd, hgd⟩, hsil⟩, hl⟩ := hc
    have s1 := s.junkP ops p
    have hdl : Go.Mx.dstL ops i = o.dst.toList := by unfold Go.Mx.dstL; rw [ho]
    have hw : Region.wanted o (yielded ops a.tmps) = true := by unfold Region.wanted; rw [hgd]
    unfold wpOp
    rw [ho]
    simp only [hw, if_true]
    cases hwb : wbox (Go.Mx.junkP ops p ρ) o (wdel i ws)
    · rw [hwb] at hm; exact hm.elim
    rw [hwb] at hm
    simp only [cond_true] at hm
    have hbx : ∀ {κ1 β1 h1 a1 w1}, Fr o.dst.toList F Z κ a w κ1 a1 w1 → (∀ d, tch (Go.Mx.junkP ops p ρ) o d = false → look β1 d = look β d) → (∀ T q k x, Watch.hp T q k x ∈ wdel i ws → sees h1 q k x) →
        (∀ x ∈ wdel i ws, WOk β1 h1 x) ∧ ∀ x ∈ wdel i ws, factOf κ1 x = factOf κ x := by
      intro κ1 β1 h1 a1 w1 fr hk hh
      refine ⟨fun x hx => ?_, fun x hx => ?_⟩
      · cases x with
        | hp T q k y => exact hh T q k y hx
        | bx T d l =>
          have := hws _ (mem_wdel hx).1
          exact (hk d (wbox_spec hwb hx)).trans this
      · cases x with
        | hp T q k y => rfl
        | bx T d l =>
          have hd := wbox_spec hwb hx
          unfold tch at hd
          rw [Bool.or_eq_false_iff] at hd
          simp only [factOf, fr.id d (.inl hd.1)]
    have hwp := effI_sound s1 hd hsil (effI_keep (effI_le hsil hl hm))
    refine .inl (Oper.wp_weak (Oper.wp_mono (fun a1 w1 hp => ?_) hwp))
    obtain ⟨κ1, ρ2, β1, h1, p1, p2, p5, p3, p4⟩ := hp
    obtain ⟨b1, b2⟩ := hbx p2 p5 fun T q k x hx => by
      have := hws _ (mem_wdel hx).1
      unfold WOk sees at this
      unfold sees
      split
      · simp only at this; exact fun j v hj => cell_le' p3 (this j v hj)
      · trivial
    have b0 : ∀ x ∈ wdel i ws, WOk β h x := fun x hx => hws x (mem_wdel hx).1
    obtain ⟨g1, g2⟩ := watch_step (ops := ops) s1.sb p1.sb b0 b1 b2
    refine ⟨g1, ?_⟩
    rw [g2]
    exact H p1 (hdl ▸ p2) b1 p4
theorem stO_junk {P : Program} {n : Nat} {F : List Nat} {ops : Array Oper} {hid : List Nat} {i : Nat} {p : Option Nat} {ws : List Watch} {ρ : Slots} {β : Boxes} {h : Heap} {C : List Watch → Slots → Boxes → Heap → Prop} (hm : stO P n F ops hid i p ws ρ β h C) : stO P n F ops hid i p ws (Go.Mx.junkP ops p ρ) β h C := by
  have e : Go.Mx.junkP ops p (Go.Mx.junkP ops p ρ) = Go.Mx.junkP ops p ρ := by
    cases p with
    | none => rfl
    | some i =>
      simp only [Go.Mx.junkP]
      cases ops[i]? with
      | none => rfl
      | some o =>
        simp only
        cases o.dst with
        | none => rfl
        | some d =>
          funext t
          simp only [putS]
          cases Nat.beq t d <;> rfl
  unfold stO at hm ⊢
  rw [e]
  exact hm
theorem regDI_two {P : Program} {n : Nat} {F : List Nat} {ops : Array Oper} {hid pk : List Nat} {x y : Nat} {r : List Stp} {ws : List Watch} {ρ : Slots} {β : Boxes} {h : Heap} {K : Slots → Boxes → Heap → Prop} (hp : plainO ops x = true)
    (hm : regDI P n F ops hid pk (.e x y :: r) ws ρ β h K) :
    stO P n F ops hid x (pendOf r) ws (Go.Mx.junkP ops (pendOf r) ρ) β h (fun ws1 ρ1 β1 h1 => stO P n F ops hid y (pendOf r) ws1 ρ1 β1 h1 fun ws2 ρ2 β2 h2 => regDI P n F ops hid pk r ws2 ρ2 β2 h2 K) ∧
    stO P n F ops hid y (pendOf r) ws (Go.Mx.junkP ops (pendOf r) ρ) β h (fun ws1 ρ1 β1 h1 => stO P n F ops hid x (pendOf r) ws1 ρ1 β1 h1 fun ws2 ρ2 β2 h2 => regDI P n F ops hid pk r ws2 ρ2 β2 h2 K) := by
  simp only [regDI, Stp.no] at hm
  unfold plainO at hp
  split at hp
  · rename_i o ho
    rw [ho] at hm
    simp only at hm
    rw [Option.isNone_iff_eq_none] at hp
    cases hd : dstOk n o.dst
    · rw [hd] at hm; exact hm.elim
    rw [hd] at hm
    simp only [cond_true, guardI, hp] at hm
    exact hm
  · cases hp
theorem onlyR_spec {ops : Array Oper} {L : List Nat} {i : Nat} {listed : Array Bool} (h : onlyR ops L i listed = true) : Region.ready .any ops listed ≠ [] ∧ ∀ j ∈ Region.ready .any ops listed, j ∈ L := by
  simp only [onlyR, Bool.and_eq_true] at h
  refine ⟨fun e => by rw [e] at h; simp at h, fun j hj => ?_⟩
  have := List.all_eq_true.1 h.2 j hj
  simpa using this

theorem regDI_none {P : Program} {D0 : List Deferred} {h0 : Heap} {w0 : World} {n : Nat} {F : List Nat} {Z : Nat → Prop} {ops : Array Oper} {hid pk : List Nat} {K : Slots → Boxes → Heap → Prop} {Q : Exit → Act → World → Prop}
    {κr : Nat → Nat} {ar : Act} {wr : World} (hsel : Region.noSelect ops = true) (hQp : ∀ c a w, ¬ Q (.panic c) a w) :
    ∀ (steps : List Stp) {listed : Array Bool} {ws : List Watch} {κ ρ β h a w}, St D0 h0 w0 n F Z κ ρ β h a w → Fr (wrR ops) F Z κr ar wr κ a w → (∀ x ∈ ws, WOk β h x) →
      stepsOk ops none steps listed = true → regDI P n F ops hid pk steps ws ρ β h K →
      (∀ a' w', CodePost D0 h0 w0 n (wrR ops) F Z κr ar wr K a' w' → Q .normal a' w') →
      wpAnyF P .any ops Q (stepsN steps) (ws.map (factOf κ)) listed a w
  | [], listed, ws, κ, ρ, β, h, a, w, s, f, hw, hst, hm, hQ => by
    simp only [stepsOk, List.isEmpty_iff] at hst
    exact ⟨hst, hQ a w ⟨κ, ρ, β, h, s, f, hm⟩⟩
  | .a i :: r, listed, ws, κ, ρ, β, h, a, w, s, f, hw, hst, hm, hQ => by simp [stepsOk] at hst
  | .e x y :: r, listed, ws, κ, ρ, β, h, a, w, s, f, hw, hst, hm, hQ => by
    simp only [stepsOk, Bool.and_eq_true] at hst
    obtain ⟨⟨⟨⟨⟨c0, c1⟩, c2⟩, c3⟩, c4⟩, c5⟩ := hst
    obtain ⟨m1, m2⟩ := regDI_two c0 hm
    have s1 := s.junkP ops (pendOf r)
    obtain ⟨e1, e2⟩ := onlyR_spec c1
    refine ⟨fun e => absurd e e1, fun j hj => ?_⟩
    have hj := e2 j hj
    simp only [List.mem_cons, List.not_mem_nil, or_false] at hj
    rcases hj with rfl | rfl
    · refine stO_sound s1 hw m1 fun q1 q2 q3 q4 => ?_
      obtain ⟨e3, e4⟩ := onlyR_spec c2
      refine ⟨fun e => absurd e e3, fun j hj => ?_⟩
      obtain rfl : j = y := by simpa using e4 j hj
      exact stO_sound q1 q3 q4 fun r1 r2 r3 r4 => regDI_none hsel hQp r r1 ((f.trans (q2.dstL rfl)).trans (r2.dstL rfl)) r3 c4 r4 hQ
    · refine stO_sound s1 hw m2 fun q1 q2 q3 q4 => ?_
      obtain ⟨e3, e4⟩ := onlyR_spec c3
      refine ⟨fun e => absurd e e3, fun j' hj' => ?_⟩
      obtain rfl : j' = x := by simpa using e4 j' hj'
      exact stO_sound q1 q3 q4 fun r1 r2 r3 r4 => regDI_none hsel hQp r r1 ((f.trans (q2.dstL rfl)).trans (r2.dstL rfl)) r3 c5 r4 hQ
  | .w i T :: r, listed, ws, κ, ρ, β, h, a, w, s, f, hw, hst, hm, hQ => by
    simp only [stepsOk, Bool.and_eq_true] at hst
    exact regDI_step hsel hQp (fun _ e => by cases e) (fun _ _ e => by cases e) s hw hst.1 hm (fun q1 q2 q3 q4 => regDI_none hsel hQp r q1 (f.trans (q2.dstL rfl)) q3 hst.2 q4 hQ) (fun e he => by cases he)
  | .p i :: r, listed, ws, κ, ρ, β, h, a, w, s, f, hw, hst, hm, hQ => by
    simp only [stepsOk, Bool.and_eq_true] at hst
    exact regDI_step hsel hQp (fun _ e => by cases e) (fun _ _ e => by cases e) s hw hst.1 hm (fun q1 q2 q3 q4 => regDI_none hsel hQp r q1 (f.trans (q2.dstL rfl)) q3 hst.2 q4 hQ) (fun e he => by cases he)
  | .o i :: r, listed, ws, κ, ρ, β, h, a, w, s, f, hw, hst, hm, hQ => by
    simp only [stepsOk, Bool.and_eq_true] at hst
    exact regDI_step hsel hQp (fun _ e => by cases e) (fun _ _ e => by cases e) s hw hst.1 hm (fun q1 q2 q3 q4 => regDI_none hsel hQp r q1 (f.trans (q2.dstL rfl)) q3 hst.2 q4 hQ) (fun e he => by cases he)

theorem regDI_early {P : Program} {D0 : List Deferred} {h0 : Heap} {w0 : World} {n : Nat} {F : List Nat} {Z : Nat → Prop} {ops : Array Oper} {hid pk : List Nat} {K : Slots → Boxes → Heap → Prop} {Q : Exit → Act → World → Prop}
    {κr : Nat → Nat} {ar : Act} {wr : World} (hpk : ∀ j, pk.contains j = true → Z (κr j)) (hsel : Region.noSelect ops = true) (hQp : ∀ c a w, ¬ Q (.panic c) a w)
    {i d b : Nat} {oi : Oper} {Ty : TypeId} {k : Kd} (hoi : ops[i]? = some oi) (hop : oi.op = .alloc Ty) (hdst : oi.dst = some d) (hk : kdOf P D Ty = some k) (hgd : oi.guard = none) (hZb : ¬ Z b) (hb0 : w0.heap.size ≤ b) :
    ∀ (steps : List Stp) {listed : Array Bool} {ws : List Watch} {κ ρ β h a w}, St D0 h0 w0 n F (fun x => Z x ∨ x = b) κ ρ β h a w → Fr (wrR ops) F Z κr ar wr κ a w →
      w.heap[b]? = some (.cells (entCells (k.dis k.zero)).toArray Ty (0, 0)) → a.tmps.getD d undef = .pointer (some ⟨b, 0, none⟩) → (∀ x ∈ ws, WOk β h x) →
      stepsOk ops (some i) steps listed = true → regDI P n F ops hid pk steps ws ρ β h K →
      (∀ a' w', CodePost D0 h0 w0 n (wrR ops) F Z κr ar wr K a' w' → Q .normal a' w') →
      wpAnyF P .any ops Q (stepsN steps - 1) (ws.map (factOf κ)) (listed.setIfInBounds i true) a w := by
  intro steps
  induction steps with
  | nil => intro listed ws κ ρ β h a w s f hb hp hw hst hm hQ; simp [stepsOk] at hst
  | cons st r ih =>
    intro listed ws κ ρ β h a w s f hb hp hw hst hm hQ
    by_cases hA : ∃ j, st = .a j
    · obtain ⟨j, rfl⟩ := hA
      simp only [stepsOk, Bool.and_eq_true] at hst
      obtain ⟨⟨c1, c2⟩, c3⟩ := hst
      have c1 := Nat.eq_of_beq_eq_true c1
      subst c1
      simp only [regDI, Stp.no] at hm
      rw [hoi] at hm
      simp only at hm
      cases hd : dstOk n oi.dst
      · rw [hd] at hm; exact hm.elim
      rw [hd] at hm
      simp only [cond_true, guardI, hgd] at hm
      cases hs : isSil oi.op
      · rw [hs] at hm
        simp only [cond_false] at hm
        cases hall : (wbox (junkP ops (pendOf (Stp.a i :: r)) ρ) oi ws && β.all (fun p => !(F.contains p.1) || pk.contains p.1))
        · rw [hall] at hm; exact hm.elim
        rw [hall] at hm
        simp only [cond_true] at hm
        simp only [Bool.and_eq_true] at hall
        obtain ⟨hwb, hall⟩ := hall
        have hm := effI_keep hm
        unfold effI at hm
        rw [hop] at hm
        simp only [hk, cond_true] at hm
        unfold hideI at hm
        rw [hdst] at hm
        simp only at hm
        cases hf : F.contains d
        · rw [hf] at hm
          simp only [cond_false] at hm
          have hne : ∀ j m, look β j = some m → κ j ≠ b := by
            intro j m e c
            have h1 := s.zf j m e (.inr c)
            have h2 := f.id j (.inr h1)
            have h3 : pk.contains j = true := by
              have hmem := look_mem e
              rw [List.contains_iff_mem, List.mem_map] at hmem
              obtain ⟨p, hp1, hp2⟩ := hmem
              have := List.all_eq_true.1 hall p hp1
              rw [hp2, h1] at this
              simpa using this
            exact hZb (by rw [← c, h2]; exact hpk j h3)
          obtain ⟨κ', q1, q2⟩ := (s.junkP ops (pendOf (Stp.a i :: r))).adopt (d := d) hf hb hb0 hZb hne hp
          have q2' : Fr (wrR ops) F Z κ a w κ' a w := q2.mono (fun t ht => by have := mem_wrR hoi ht; rw [hdst] at this; exact this) (fun _ e => e) (fun _ e => e)
          obtain ⟨hm1, hm2⟩ := hm
          have hw' : ∀ x ∈ ws, WOk ((d, k.dis k.zero) :: β) h x := fun x hx => by
            have := hw x hx
            cases x with
            | hp T q k y => exact this
            | bx T c l => exact (hm1 c (wbox_spec hwb hx)).trans this
          have hκ : ∀ x ∈ ws, factOf κ' x = factOf κ x := fun x hx => by
            cases x with
            | hp T q k y => rfl
            | bx T c l =>
              have hd := wbox_spec hwb hx
              unfold tch at hd
              rw [Bool.or_eq_false_iff, hdst] at hd
              simp only [factOf, q2.id c (.inl hd.1)]
          have e : ws.map (factOf κ') = ws.map (factOf κ) := List.map_congr_left hκ
          have hN := regDI_none hsel hQp r q1 (f.trans q2') hw' c3 hm2 hQ
          rw [e] at hN
          exact hN
        · rw [hf] at hm; exact hm.elim
      · rw [hs] at hm; exact hm.elim
    · have hna : ∀ j, st ≠ .a j := fun j e => hA ⟨j, e⟩
      by_cases hE : ∃ x y, st = .e x y
      · obtain ⟨x, y, rfl⟩ := hE
        simp only [stepsOk, Bool.and_eq_true, Bool.not_eq_true'] at hst
        obtain ⟨⟨⟨⟨⟨⟨⟨⟨⟨⟨⟨⟨c0, cx⟩, cy⟩, ax⟩, ay⟩, d1⟩, d2⟩, d3⟩, d4⟩, d5⟩, d6⟩, d7⟩, d8⟩ := hst
        have hxi : x ≠ i := fun e => by rw [e] at cx; simp at cx
        have hyi : y ≠ i := fun e => by rw [e] at cy; simp at cy
        obtain ⟨m, hm1⟩ : ∃ m, stepsN r = m + 1 := by
          cases r with
          | nil => simp [stepsOk] at d7
          | cons st2 r2 => cases st2 <;> exact ⟨_, rfl⟩
        rw [hm1] at ih
        obtain ⟨m1, m2⟩ := regDI_two c0 hm
        have s1 := s.junkP ops (pendOf r)
        have slotd : ∀ {z : Nat} {κ a w κ' a' w'}, apartD ops z i = true → Fr (dstL ops z) F (fun x => Z x ∨ x = b) κ a w κ' a' w' → a.tmps.getD d undef = .pointer (some ⟨b, 0, none⟩) → a'.tmps.getD d undef = .pointer (some ⟨b, 0, none⟩) := by
          intro z κ a w κ' a' w' c3 fr hp
          refine (fr.slot d ?_).trans hp
          unfold dstL
          split
          · rename_i o ho
            unfold apartD at c3
            rw [ho, hoi] at c3
            simp only [hdst] at c3
            cases hod : o.dst with
            | none => rfl
            | some x =>
              rw [hod] at c3
              simp only [Bool.not_eq_true'] at c3
              have hxd : x ≠ d := fun e => by rw [e] at c3; simp at c3
              simp [hxd.symm]
          · rfl
        have up : ∀ {z : Nat} {κ a w κ' a' w'}, Fr (dstL ops z) F (fun x => Z x ∨ x = b) κ a w κ' a' w' → Fr (wrR ops) F Z κ a w κ' a' w' := fun fr => (fr.dstL rfl).mono (fun _ e => e) (fun _ e => e) (fun _ e => .inl e)
        show wpAnyF P .any ops Q (stepsN r + 2 - 1) _ _ a w
        rw [hm1]
        obtain ⟨e1, e2⟩ := onlyR_spec d4
        refine ⟨fun e => absurd e e1, fun j hj => ?_⟩
        have hj := e2 j hj
        simp only [List.mem_cons, List.not_mem_nil, or_false] at hj
        rcases hj with rfl | rfl
        · refine stO_sound s1 hw m1 fun q1 q2 q3 q4 => ?_
          rw [Array.setIfInBounds_comm _ _ (Ne.symm hxi)]
          obtain ⟨e3, e4⟩ := onlyR_spec d5
          refine ⟨fun e => absurd e e3, fun j hj => ?_⟩
          obtain rfl : j = y := by simpa using e4 j hj
          refine stO_sound q1 q3 q4 fun r1 r2 r3 r4 => ?_
          rw [Array.setIfInBounds_comm _ _ (Ne.symm hyi)]
          exact ih r1 ((f.trans (up q2)).trans (up r2)) ((r2.blk b (.inr rfl)).trans ((q2.blk b (.inr rfl)).trans hb)) (slotd ay r2 (slotd ax q2 hp)) r3 d7 r4 hQ
        · refine stO_sound s1 hw m2 fun q1 q2 q3 q4 => ?_
          rw [Array.setIfInBounds_comm _ _ (Ne.symm hyi)]
          obtain ⟨e3, e4⟩ := onlyR_spec d6
          refine ⟨fun e => absurd e e3, fun j' hj => ?_⟩
          obtain rfl : j' = x := by simpa using e4 j' hj
          refine stO_sound q1 q3 q4 fun r1 r2 r3 r4 => ?_
          rw [Array.setIfInBounds_comm _ _ (Ne.symm hxi)]
          exact ih r1 ((f.trans (up q2)).trans (up r2)) ((r2.blk b (.inr rfl)).trans ((q2.blk b (.inr rfl)).trans hb)) (slotd ax r2 (slotd ay q2 hp)) r3 d8 r4 hQ
      have hne : ∀ x y, st ≠ .e x y := fun x y e => hE ⟨x, y, e⟩
      have hst' : ((((!(Nat.beq st.no i)) = true ∧ apartD ops st.no i = true) ∧ chk ops [i] st listed = true) ∧ chk ops [] st (listed.setIfInBounds i true) = true) ∧ stepsOk ops (some i) r (listed.setIfInBounds st.no true) = true := by
        cases st with
        | a j => exact absurd rfl (hna j)
        | e x y => exact absurd rfl (hne x y)
        | _ => simpa only [stepsOk, Bool.and_eq_true] using hst
      obtain ⟨⟨⟨⟨c2, c3⟩, c4⟩, c5⟩, c6⟩ := hst'
      have hni : st.no ≠ i := fun e => by rw [e] at c2; simp at c2
      cases r with
      | nil => simp [stepsOk] at c6
      | cons st2 r =>
        rw [stepsN_one hne]
        obtain ⟨m, hm1⟩ : ∃ m, stepsN (st2 :: r) = m + 1 := by cases st2 <;> exact ⟨_, rfl⟩
        rw [hm1] at ih ⊢
        refine regDI_step (E := []) (fuel := m) hsel hQp hna hne s hw c5 hm (fun q1 q2 q3 q4 => ?_) (fun e he => by cases he)
        rw [Array.setIfInBounds_comm _ _ (Ne.symm hni)]
        refine ih q1 (f.trans ((q2.dstL rfl).mono (fun _ e => e) (fun _ e => e) (fun _ e => .inl e))) ((q2.blk b (.inr rfl)).trans hb) ((q2.slot d ?_).trans hp) q3 c6 q4 hQ
        unfold dstL
        split
        · rename_i o ho
          unfold apartD at c3
          rw [ho, hoi] at c3
          simp only [hdst] at c3
          cases hod : o.dst with
          | none => rfl
          | some x =>
            rw [hod] at c3
            simp only [Bool.not_eq_true'] at c3
            have hxd : x ≠ d := fun e => by rw [e] at c3; simp at c3
            simp [hxd.symm]
        · rfl

theorem alloc_now {P : Program} {D0 : List Deferred} {h0 : Heap} {w0 : World} {n : Nat} {F : List Nat} {Z : Nat → Prop} {ops : Array Oper} {Q : Exit → Act → World → Prop}
    {κr : Nat → Nat} {ar : Act} {wr : World} {i d : Nat} {oi : Oper} {Ty : TypeId} {k : Kd} (hoi : ops[i]? = some oi) (hop : oi.op = .alloc Ty) (hdst : oi.dst = some d) (hk : kdOf P D Ty = some k) (hgd : oi.guard = none) (hdn : dstOk n (some d) = true)
    {fuel : Nat} {listed : Array Bool} {ws : List Watch} {κ ρ β h a w} (s : St D0 h0 w0 n F Z κ ρ β h a w) (f : Fr (wrR ops) F Z κr ar wr κ a w) (hw : ∀ x ∈ ws, WOk β h x)
    (H : ∀ {a2 w2}, St D0 h0 w0 n F (fun x => Z x ∨ x = w.heap.size) κ (putS ρ (some d) .junk) β h a2 w2 → Fr (wrR ops) F Z κr ar wr κ a2 w2 → w2.heap[w.heap.size]? = some (.cells (entCells (k.dis k.zero)).toArray Ty (0, 0)) →
      a2.tmps.getD d undef = .pointer (some ⟨w.heap.size, 0, none⟩) → wpAnyF P .any ops Q fuel (ws.map (factOf κ)) (listed.setIfInBounds i true) a2 w2) :
    wpOp P ops Q i (fun a' w' => (∀ f ∈ ws.map (factOf κ), f.spoil i = false → f.holds w → f.holds w') ∧ wpAnyF P .any ops Q fuel ((ws.map (factOf κ)).filter fun f => !f.spoil i) (listed.setIfInBounds i true) a' w') a w := by
  have hwt : Region.wanted oi (yielded ops a.tmps) = true := by unfold Region.wanted; rw [hgd]
  have hrun : (execOp a.eval oi).run P w = .ok (.value (.pointer (some ⟨w.heap.size, 0, none⟩))) (w.alloc (.cells (entCells (k.dis k.zero)).toArray Ty)) := by
    simp only [execOp, hop, Instr.alloc, Sem.run_bind, run_zeroValue hk, Result.andThen_ok, newVar, newRow, run_newObj, zero_cells, Sem.run_pure, Kd.dis_cells]
    rfl
  have held : ∀ f ∈ ws.map (factOf κ), f.holds w → f.holds (w.alloc (.cells (entCells (k.dis k.zero)).toArray Ty)) := by
    intro f hf hh
    obtain ⟨x, hx, rfl⟩ := List.mem_map.1 hf
    have hok := hw x hx
    cases x with
    | hp T q k y =>
      intro a e j v hj
      have := hh a e j v hj
      unfold World.cell? at this ⊢
      have hlt : (a.add j).block < w.heap.size := by
        rcases Nat.lt_or_ge (a.add j).block w.heap.size with c | c
        · exact c
        · rw [Array.getElem?_eq_none c] at this; cases this
      rw [heap_alloc_old w _ hlt]
      exact this
    | bx T c l =>
      obtain ⟨t, ht⟩ := hh
      exact ⟨t, by rw [heap_alloc_old w _ (s.box_lt hok)]; exact ht⟩
  unfold wpOp
  rw [hoi]
  simp only [hwt, if_true]
  refine .inl (Oper.wp_weak (wp_of_run hrun ?_))
  rw [hdst]
  have s2 : St D0 h0 w0 n F (fun x => Z x ∨ x = w.heap.size) κ (putS ρ (some d) .junk) β h (a.put (some d) (.pointer (some ⟨w.heap.size, 0, none⟩))) (w.alloc (.cells (entCells (k.dis k.zero)).toArray Ty)) := by
    refine ⟨s.inv.hide _, fun j m e => ?_, s.inj, fun x hx => ?_, fun j m e hz => ?_, by rw [size_put]; exact s.size, slot_put s.slot s.size hdn trivial, by rw [defers_put]; exact s.defers⟩
    · obtain ⟨⟨t, q1⟩, q2, q3⟩ := s.box j m e
      exact ⟨⟨t, by rw [heap_alloc_old w _ (s.box_lt e)]; exact q1⟩, q2, q3⟩
    · rcases hx with hx | rfl
      · obtain ⟨z1, z2⟩ := s.z x hx
        exact ⟨by rw [size_alloc]; omega, z2⟩
      · exact ⟨by rw [size_alloc]; omega, none_of_size s.inv.sub⟩
    · rcases hz with hz | hz
      · exact s.zf j m e hz
      · have := s.box_lt e
        omega
  have f2 : Fr (wrR ops) F Z κ a w κ (a.put (some d) (.pointer (some ⟨w.heap.size, 0, none⟩))) (w.alloc (.cells (entCells (k.dis k.zero)).toArray Ty)) := by
    refine ⟨fun t ht => ?_, fun _ _ => rfl, fun x hx => heap_alloc_old w _ (s.z x hx).1⟩
    rw [getD_put s.size hdn, if_neg]
    intro e
    have := mem_wrR hoi ht
    rw [hdst, e] at this
    simp at this
  refine ⟨fun f hf _ hh => held f hf hh, wpAnyF_less _ (fun f hf => (List.mem_filter.1 hf).1) ?_⟩
  exact H s2 (f.trans f2) (heap_alloc_new w _) (by rw [getD_put s.size hdn]; simp)

theorem regDI_sound {P : Program} {D0 : List Deferred} {h0 : Heap} {w0 : World} {n : Nat} {F : List Nat} {Z : Nat → Prop} {ops : Array Oper} {hid pk : List Nat} {K : Slots → Boxes → Heap → Prop} {Q : Exit → Act → World → Prop}
    {κr : Nat → Nat} {ar : Act} {wr : World} (hpk : ∀ j, pk.contains j = true → Z (κr j)) (hsel : Region.noSelect ops = true) (hQp : ∀ c a w, ¬ Q (.panic c) a w) :
    ∀ (p : Option Nat) (steps : List Stp) {listed : Array Bool} {ws : List Watch} {κ ρ β h a w}, pendOk P n F ops p = true → pendOf steps = p → St D0 h0 w0 n F Z κ ρ β h a w → Fr (wrR ops) F Z κr ar wr κ a w → (∀ x ∈ ws, WOk β h x) →
      stepsOk ops p steps listed = true → regDI P n F ops hid pk steps ws ρ β h K →
      (∀ a' w', CodePost D0 h0 w0 n (wrR ops) F Z κr ar wr K a' w' → Q .normal a' w') →
      wpAnyF P .any ops Q (stepsN steps) (ws.map (factOf κ)) listed a w := by
  intro p
  cases p with
  | none => intro steps listed ws κ ρ β h a w _ _ s f hw hst hm hQ; exact regDI_none hsel hQp steps s f hw hst hm hQ
  | some i =>
    intro steps
    induction steps with
    | nil => intro listed ws κ ρ β h a w _ _ s f hw hst hm hQ; simp [stepsOk] at hst
    | cons st r ih =>
      intro listed ws κ ρ β h a w hpn hpo s f hw hst hm hQ
      have hpn0 := hpn
      unfold pendOk at hpn
      simp only at hpn
      split at hpn
      · rename_i oi hoi
        simp only [Bool.and_eq_true, Option.isNone_iff_eq_none] at hpn
        obtain ⟨hgd, hpn⟩ := hpn
        split at hpn
        · rename_i Ty d hop hdst
          simp only [Bool.and_eq_true, Bool.not_eq_true'] at hpn
          obtain ⟨⟨hk, hFd⟩, hdn⟩ := hpn
          obtain ⟨k, hk⟩ := Option.isSome_iff_exists.1 hk
          have hwt : Region.wanted oi (yielded ops a.tmps) = true := by unfold Region.wanted; rw [hgd]
          have hrun : (execOp a.eval oi).run P w = .ok (.value (.pointer (some ⟨w.heap.size, 0, none⟩))) (w.alloc (.cells (entCells (k.dis k.zero)).toArray Ty)) := by
            simp only [execOp, hop, Instr.alloc, Sem.run_bind, run_zeroValue hk, Result.andThen_ok, newVar, newRow, run_newObj, zero_cells, Sem.run_pure, Kd.dis_cells]
            rfl
          have held : ∀ f ∈ ws.map (factOf κ), f.holds w → f.holds (w.alloc (.cells (entCells (k.dis k.zero)).toArray Ty)) := by
            intro f hf hh
            obtain ⟨x, hx, rfl⟩ := List.mem_map.1 hf
            have hok := hw x hx
            cases x with
            | hp T q k y =>
              intro a e j v hj
              have := hh a e j v hj
              unfold World.cell? at this ⊢
              have hlt : (a.add j).block < w.heap.size := by
                rcases Nat.lt_or_ge (a.add j).block w.heap.size with c | c
                · exact c
                · rw [Array.getElem?_eq_none c] at this; cases this
              rw [heap_alloc_old w _ hlt]
              exact this
            | bx T c l =>
              obtain ⟨t, ht⟩ := hh
              exact ⟨t, by rw [heap_alloc_old w _ (s.box_lt hok)]; exact ht⟩
          by_cases hA : ∃ j, st = .a j
          · obtain ⟨j, rfl⟩ := hA
            simp only [stepsOk, Bool.and_eq_true] at hst
            obtain ⟨⟨c1, c2⟩, c3⟩ := hst
            have c1 := Nat.eq_of_beq_eq_true c1
            subst c1
            simp only [chk, Bool.and_eq_true] at c2
            obtain ⟨hrd, honly⟩ := c2
            simp only [regDI, Stp.no] at hm
            rw [hoi] at hm
            simp only at hm
            rw [hdst] at hm
            simp only [hdn, cond_true, guardI, hgd] at hm
            cases hs : isSil oi.op
            · rw [hs] at hm
              simp only [cond_false] at hm
              cases hall : (wbox (junkP ops (pendOf (Stp.a i :: r)) ρ) oi ws && β.all (fun p => !(F.contains p.1) || pk.contains p.1))
              · rw [hall] at hm; exact hm.elim
              rw [hall] at hm
              simp only [cond_true] at hm
              simp only [Bool.and_eq_true] at hall
              obtain ⟨hwb, hall⟩ := hall
              refine ⟨fun e => by rw [e] at hrd; simp at hrd, fun j hj => ?_⟩
              have hji : j = i := by
                have := List.all_eq_true.1 honly j hj
                simpa using this
              subst hji
              unfold wpOp
              rw [hoi]
              simp only [hwt, if_true]
              have hm := effI_keep hm
              unfold effI at hm
              rw [hop] at hm
              simp only [hk, cond_true, hdst] at hm
              unfold hideI at hm
              simp only [hFd, cond_false] at hm
              obtain ⟨hm1, hm2⟩ := hm
              obtain ⟨κ', q1, q2⟩ := (s.junkP ops (pendOf (Stp.a j :: r))).hide (d := d) hdn hFd (k.dis k.zero) Ty
              refine .inl (Oper.wp_weak (wp_of_run hrun ?_))
              rw [hdst]
              have q2' : Fr (wrR ops) F Z κ a w κ' (a.put (some d) (.pointer (some ⟨w.heap.size, 0, none⟩))) (w.alloc (.cells (entCells (k.dis k.zero)).toArray Ty)) := q2.mono (fun t ht => by have := mem_wrR hoi ht; rw [hdst] at this; exact this) (fun _ e => e) (fun _ e => e)
              have hw' : ∀ x ∈ ws, WOk ((d, k.dis k.zero) :: β) h x := fun x hx => by
                have := hw x hx
                cases x with
                | hp T q k y => exact this
                | bx T c l => exact (hm1 c (wbox_spec hwb hx)).trans this
              have hκ : ∀ x ∈ ws, factOf κ' x = factOf κ x := fun x hx => by
                cases x with
                | hp T q k y => rfl
                | bx T c l =>
                  have hd := wbox_spec hwb hx
                  unfold tch at hd
                  rw [Bool.or_eq_false_iff, hdst] at hd
                  simp only [factOf, q2.id c (.inl hd.1)]
              have e : ws.map (factOf κ') = ws.map (factOf κ) := List.map_congr_left hκ
              have hN := regDI_none hsel hQp r q1 (f.trans q2') hw' c3 hm2 hQ
              rw [e] at hN
              exact ⟨fun f hf _ hh => held f hf hh, wpAnyF_less _ (fun f hf => (List.mem_filter.1 hf).1) hN⟩
            · rw [hs] at hm; exact hm.elim
          · have hna : ∀ j, st ≠ .a j := fun j e => hA ⟨j, e⟩
            have hpo' : pendOf r = some i := by
              cases st with
              | a j => exact absurd rfl (hna j)
              | _ => simpa only [pendOf] using hpo
            have hst0 := hst
            by_cases hE : ∃ x y, st = .e x y
            · obtain ⟨x, y, rfl⟩ := hE
              simp only [stepsOk, Bool.and_eq_true, Bool.not_eq_true'] at hst
              obtain ⟨⟨⟨⟨⟨⟨⟨⟨⟨⟨⟨⟨c0, cx⟩, cy⟩, ax⟩, ay⟩, d1⟩, d2⟩, d3⟩, d4⟩, d5⟩, d6⟩, d7⟩, d8⟩ := hst
              have hxi : x ≠ i := fun e => by rw [e] at cx; simp at cx
              have hyi : y ≠ i := fun e => by rw [e] at cy; simp at cy
              obtain ⟨m, hm1⟩ : ∃ m, stepsN r = m + 1 := by
                cases r with
                | nil => simp [stepsOk] at d7
                | cons st2 r2 => cases st2 <;> exact ⟨_, rfl⟩
              obtain ⟨m1, m2⟩ := regDI_two c0 hm
              have s1 := s.junkP ops (pendOf r)
              have hjr : ∀ ρ : Slots, junkP ops (pendOf r) ρ = putS ρ (some d) .junk := fun ρ => by
                unfold junkP
                rw [hpo']
                simp only [hoi, hdst]
              have slotd : ∀ {z b : Nat} {Z' : Nat → Prop} {κ a w κ' a' w'}, apartD ops z i = true → Fr (dstL ops z) F Z' κ a w κ' a' w' → a.tmps.getD d undef = .pointer (some ⟨b, 0, none⟩) → a'.tmps.getD d undef = .pointer (some ⟨b, 0, none⟩) := by
                intro z b Z' κ a w κ' a' w' c3 fr hp
                refine (fr.slot d ?_).trans hp
                unfold dstL
                split
                · rename_i o ho
                  unfold apartD at c3
                  rw [ho, hoi] at c3
                  simp only [hdst] at c3
                  cases hod : o.dst with
                  | none => rfl
                  | some x =>
                    rw [hod] at c3
                    simp only [Bool.not_eq_true'] at c3
                    have hxd : x ≠ d := fun e => by rw [e] at c3; simp at c3
                    simp [hxd.symm]
                · rfl
              have mid : ∀ {x y : Nat} {ws κ ρ β h a w}, y ≠ i → apartD ops y i = true → St D0 h0 w0 n F Z κ ρ β h a w → Fr (wrR ops) F Z κr ar wr κ a w → (∀ x ∈ ws, WOk β h x) → onlyR ops [y, i] y (listed.setIfInBounds x true) = true →
                  onlyR ops [y] y ((listed.setIfInBounds x true).setIfInBounds i true) = true → stepsOk ops (some i) r ((listed.setIfInBounds x true).setIfInBounds y true) = true →
                  stO P n F ops hid y (pendOf r) ws ρ β h (fun ws2 ρ2 β2 h2 => regDI P n F ops hid pk r ws2 ρ2 β2 h2 K) → wpAnyF P .any ops Q (stepsN r + 1) (ws.map (factOf κ)) (listed.setIfInBounds x true) a w := by
                intro x y ws κ ρ β h a w hyi ay q1 fq q3 b1 b2 b3 q4
                obtain ⟨e3, e4⟩ := onlyR_spec b1
                refine ⟨fun e => absurd e e3, fun j hj => ?_⟩
                have hj := e4 j hj
                simp only [List.mem_cons, List.not_mem_nil, or_false] at hj
                by_cases hjy : j = y
                · subst hjy
                  exact stO_sound q1 q3 q4 fun r1 r2 r3 r4 => ih hpn0 hpo' r1 (fq.trans (r2.dstL rfl)) r3 b3 r4 hQ
                · obtain rfl : j = i := hj.resolve_left hjy
                  refine alloc_now hoi hop hdst hk hgd hdn q1 fq q3 fun {a2 w2} s2 f2 hb2 hp2 => ?_
                  rw [hm1]
                  obtain ⟨e5, e6⟩ := onlyR_spec b2
                  refine ⟨fun e => absurd e e5, fun j' hj' => ?_⟩
                  obtain rfl : j' = y := by simpa using e6 j' hj'
                  have q4' := stO_junk q4
                  rw [hjr] at q4'
                  refine stO_sound s2 q3 q4' fun r1 r2 r3 r4 => ?_
                  rw [Array.setIfInBounds_comm _ _ (Ne.symm hyi)]
                  have hE2 := regDI_early hpk hsel hQp hoi hop hdst hk hgd (fun hz => absurd (q1.z _ hz).1 (Nat.lt_irrefl _)) q1.inv.size r r1 (f2.trans ((r2.dstL rfl).mono (fun _ e => e) (fun _ e => e) (fun _ e => .inl e))) ((r2.blk _ (.inr rfl)).trans hb2) (slotd ay r2 hp2) r3 b3 r4 hQ
                  rw [hm1] at hE2
                  exact hE2
              obtain ⟨e1, e2⟩ := onlyR_spec d1
              refine ⟨fun e => absurd e e1, fun j hj => ?_⟩
              have hj := e2 j hj
              simp only [List.mem_cons, List.not_mem_nil, or_false] at hj
              by_cases hjx : j = x
              · subst hjx
                exact stO_sound s1 hw m1 fun q1 q2 q3 q4 => mid hyi ay q1 (f.trans (q2.dstL rfl)) q3 d2 d5 d7 q4
              by_cases hjy : j = y
              · subst hjy
                exact stO_sound s1 hw m2 fun q1 q2 q3 q4 => mid hxi ax q1 (f.trans (q2.dstL rfl)) q3 d3 d6 d8 q4
              obtain rfl : j = i := (hj.resolve_left hjx).resolve_left hjy
              refine alloc_now hoi hop hdst hk hgd hdn s f hw fun {a2 w2} s2 f2 hb2 hp2 => ?_
              have hm' := regDI_junk hm
              have hj2 : junkP ops (pendOf (Stp.e x y :: r)) ρ = putS ρ (some d) .junk := hjr ρ
              rw [hj2] at hm'
              exact regDI_early hpk hsel hQp hoi hop hdst hk hgd (fun hz => absurd (s.z _ hz).1 (Nat.lt_irrefl _)) s.inv.size (Stp.e x y :: r) s2 f2 hb2 hp2 hw hst0 hm' hQ
            have hne : ∀ x y, st ≠ .e x y := fun x y e => hE ⟨x, y, e⟩
            have hst' : ((((!(Nat.beq st.no i)) = true ∧ apartD ops st.no i = true) ∧ chk ops [i] st listed = true) ∧ chk ops [] st (listed.setIfInBounds i true) = true) ∧ stepsOk ops (some i) r (listed.setIfInBounds st.no true) = true := by
              cases st with
              | a j => exact absurd rfl (hna j)
              | e x y => exact absurd rfl (hne x y)
              | _ => simpa only [stepsOk, Bool.and_eq_true] using hst
            obtain ⟨⟨⟨⟨c2, c3⟩, c4⟩, c5⟩, c6⟩ := hst'
            rw [stepsN_one hne]
            refine regDI_step (E := [i]) hsel hQp hna hne s hw c4 hm (fun q1 q2 q3 q4 => ih hpn0 hpo' q1 (f.trans (q2.dstL rfl)) q3 c6 q4 hQ) (fun e he hno her => ?_)
            have he : e = i := by simpa using he
            subst he
            have hm' := regDI_junk hm
            have hj : junkP ops (pendOf (st :: r)) ρ = putS ρ (some d) .junk := by
              unfold junkP
              rw [hpo]
              simp only [hoi, hdst]
            rw [hj] at hm'
            unfold wpOp
            rw [hoi]
            simp only [hwt, if_true]
            refine .inl (Oper.wp_weak (wp_of_run hrun ?_))
            rw [hdst]
            have s2 : St D0 h0 w0 n F (fun x => Z x ∨ x = w.heap.size) κ (putS ρ (some d) .junk) β h (a.put (some d) (.pointer (some ⟨w.heap.size, 0, none⟩))) (w.alloc (.cells (entCells (k.dis k.zero)).toArray Ty)) := by
              refine ⟨s.inv.hide _, fun j m e => ?_, s.inj, fun x hx => ?_, fun j m e hz => ?_, by rw [size_put]; exact s.size, slot_put s.slot s.size hdn trivial, by rw [defers_put]; exact s.defers⟩
              · obtain ⟨⟨t, q1⟩, q2, q3⟩ := s.box j m e
                exact ⟨⟨t, by rw [heap_alloc_old w _ (s.box_lt e)]; exact q1⟩, q2, q3⟩
              · rcases hx with hx | rfl
                · obtain ⟨z1, z2⟩ := s.z x hx
                  exact ⟨by rw [size_alloc]; omega, z2⟩
                · exact ⟨by rw [size_alloc]; omega, none_of_size s.inv.sub⟩
              · rcases hz with hz | hz
                · exact s.zf j m e hz
                · have := s.box_lt e
                  omega
            have f2 : Fr (wrR ops) F Z κ a w κ (a.put (some d) (.pointer (some ⟨w.heap.size, 0, none⟩))) (w.alloc (.cells (entCells (k.dis k.zero)).toArray Ty)) := by
              refine ⟨fun t ht => ?_, fun _ _ => rfl, fun x hx => heap_alloc_old w _ (s.z x hx).1⟩
              rw [getD_put s.size hdn, if_neg]
              intro e
              have := mem_wrR hoi ht
              rw [hdst, e] at this
              simp at this
            refine ⟨fun f hf _ hh => held f hf hh, wpAnyF_less _ (fun f hf => (List.mem_filter.1 hf).1) ?_⟩
            have hE2 := regDI_early hpk hsel hQp hoi hop hdst hk hgd (fun hz => absurd (s.z _ hz).1 (Nat.lt_irrefl _)) s.inv.size (st :: r) s2 (f.trans f2) (heap_alloc_new w _) (by rw [getD_put s.size hdn]; simp) hw hst0 hm' hQ
            rw [stepsN_one hne] at hE2
            exact hE2
        · cases hpn
      · cases hpn

end Go.Mx
