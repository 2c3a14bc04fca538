/-
  Regions that draw their order: one walk in one order serves every order.
-/
import Derived.Test.YtanfmmcpjifgiabMxL
import Derived.OrdersHeld
set_option linter.unusedVariables false
set_option linter.unusedSimpArgs false
namespace Go.Mx

section
variable {P : Program} {ops : Array Oper} {Q : Exit → Act → World → Prop} {md : Region.Mode}

/-- Something about the world that an operation counts on, and the operations that need not leave it. -/
structure Fact where
  holds : World → Prop
  spoil : Nat → Bool

/-- Whatever order is picked from here on; every operation leaves the facts that it does not spoil. -/
def wpAnyF (P : Program) (md : Region.Mode) (ops : Array Oper) (Q : Exit → Act → World → Prop) : Nat → List Fact → Array Bool → Act → World → Prop
  | 0, _, listed, a, w => Region.ready md ops listed = [] ∧ Q .normal a w
  | fuel + 1, Fs, listed, a, w =>
    (Region.ready md ops listed = [] → Q .normal a w) ∧
    ∀ i ∈ Region.ready md ops listed, wpOp P ops Q i (fun a' w' => (∀ f ∈ Fs, f.spoil i = false → f.holds w → f.holds w') ∧ wpAnyF P md ops Q fuel (Fs.filter fun f => !f.spoil i) (listed.setIfInBounds i true) a' w') a w

theorem wpAny_of_F : ∀ (fuel : Nat) (Fs : List Fact) (listed : Array Bool) (a : Act) (w : World), wpAnyF P md ops Q fuel Fs listed a w → wpAny P md ops Q fuel listed a w
  | 0, _, _, _, _, h => h
  | fuel + 1, _, _, _, _, h => ⟨h.1, fun i hi => wpOp_mono (fun a' w' h' => wpAny_of_F fuel _ _ a' w' h'.2) (h.2 i hi)⟩
theorem wpAnyF_less : ∀ (fuel : Nat) {Fs Gs : List Fact} {listed : Array Bool} {a : Act} {w : World}, (∀ f ∈ Gs, f ∈ Fs) → wpAnyF P md ops Q fuel Fs listed a w → wpAnyF P md ops Q fuel Gs listed a w
  | 0, _, _, _, _, _, _, h => h
  | fuel + 1, Fs, Gs, _, _, _, hs, h => ⟨h.1, fun i hi => wpOp_mono (fun a' w' h' => ⟨fun f hf => h'.1 f (hs f hf), wpAnyF_less fuel (fun f hf => by
      rw [List.mem_filter] at hf ⊢
      exact ⟨hs f hf.1, hf.2⟩) h'.2⟩) (h.2 i hi)⟩

/-- Marked operations that are still to come come behind i. -/
def Behind (md : Region.Mode) (ops : Array Oper) (Dm : Nat → Bool) (listed : Array Bool) (i : Nat) : Prop :=
  ∃ T : Nat → Prop, (∀ j, T j → listed.getD j true = false) ∧ (∀ j, T j → j ≠ i → ∃ oj, ops[j]? = some oj ∧ ∃ e ∈ oj.after, Region.binds md e = true ∧ T e.on) ∧ ∀ j oj, ops[j]? = some oj → j ≠ i → listed.getD j true = false → ¬ T j → Dm j = false
theorem Behind.not {md : Region.Mode} {ops : Array Oper} {listed : Array Bool} {i j : Nat} {T : Nat → Prop} (h1 : ∀ j, T j → listed.getD j true = false)
    (h2 : ∀ j, T j → j ≠ i → ∃ oj, ops[j]? = some oj ∧ ∃ e ∈ oj.after, Region.binds md e = true ∧ T e.on) (hj : j ∈ Region.ready md ops listed) (hji : j ≠ i) : ¬ T j := by
  intro hT
  obtain ⟨_, oj, hoj, hall⟩ := mem_ready.1 hj
  obtain ⟨oj', hoj', e, he, hb, hTe⟩ := h2 j hT hji
  rw [hoj] at hoj'; cases hoj'
  have h3 := hall e he hb
  have h0 := h1 _ hTe
  rcases Nat.lt_or_ge e.on listed.size with h' | h'
  · simp [h'] at h0 h3; rw [h0] at h3; cases h3
  · simp [Array.getElem?_eq_none h'] at h3
theorem Behind.dm {md : Region.Mode} {ops : Array Oper} {Dm : Nat → Bool} {listed : Array Bool} {i j : Nat} (h : Behind md ops Dm listed i) (hj : j ∈ Region.ready md ops listed) (hji : j ≠ i) : Dm j = false := by
  obtain ⟨T, h1, h2, h3⟩ := h
  obtain ⟨hjun, oj, hoj, hall⟩ := mem_ready.1 hj
  exact h3 j oj hoj hji hjun (Behind.not h1 h2 hj hji)
theorem Behind.set {md : Region.Mode} {ops : Array Oper} {Dm : Nat → Bool} {listed : Array Bool} {i j : Nat} (h : Behind md ops Dm listed i) (hj : j ∈ Region.ready md ops listed) (hji : j ≠ i) : Behind md ops Dm (listed.setIfInBounds j true) i := by
  obtain ⟨T, h1, h2, h3⟩ := h
  have hn := Behind.not h1 h2 hj hji
  refine ⟨T, fun k hk => ?_, h2, fun k ok hk hki hun hT => h3 k ok hk hki ?_ hT⟩
  · have hjk : j ≠ k := fun e => by subst e; exact hn hk
    rw [getD_set_ne true hjk]; exact h1 k hk
  · by_cases hjk : j = k
    · subst hjk; exact (mem_ready.1 hj).1
    · rw [getD_set_ne true hjk] at hun; exact hun

theorem wpAnyF_first {f : Fact} {i : Nat} {oi : Oper} {v : Value} (hi : ops[i]? = some oi) (hsel : ∀ (j : Nat) (o : Oper) cs b, ops[j]? = some o → o.op ≠ .select cs b)
    (hQ : ∀ c a w, Q (.panic c) (a.put oi.dst v) w → Q (.panic c) a w) :
    ∀ (fuel : Nat) (Fs : List Fact) (listed : Array Bool) (a : Act) (w : World),
      (∀ j oj, ops[j]? = some oj → j ≠ i → listed.getD j true = false → (∀ e ∈ oj.after, Region.binds md e = true → e.on ≠ i) → oi.apart ops oj = true) →
      Behind md ops f.spoil listed i → i ∈ Region.ready md ops listed → YieldsIf P ops f.holds oi v a → f.holds w →
      wpAnyF P md ops Q fuel (f :: Fs) (listed.setIfInBounds i true) (a.put oi.dst v) w → wpAnyF P md ops Q (fuel + 1) Fs listed a w := by
  intro fuel
  induction fuel with
  | zero =>
    intro Fs listed a w _ _ hr hy hS H
    refine ⟨fun h => (by rw [h] at hr; cases hr), fun j hj => ?_⟩
    by_cases hji : j = i
    · subst hji; exact hy.wpOp hi hS ⟨fun _ _ _ e => e, H⟩
    · have := ready_mono hj hji
      rw [H.1] at this
      cases this
  | succ fuel ih =>
    intro Fs listed a w hfree hdm hr hy hS H
    refine ⟨fun h => (by rw [h] at hr; cases hr), fun j hj => ?_⟩
    by_cases hji : j = i
    · subst hji
      exact hy.wpOp hi hS ⟨fun _ _ _ e => e, wpAnyF_less _ (fun g hg => List.mem_cons_of_mem _ (List.mem_filter.1 hg).1) H⟩
    · have h1 := H.2 j (ready_mono hj hji)
      obtain ⟨hjun, oj, hoj, hall⟩ := mem_ready.1 hj
      have hnot : ∀ e ∈ oj.after, Region.binds md e = true → e.on ≠ i := fun e he hb heq => by
        have h1 := hall e he hb
        have h0 := (mem_ready.1 hr).1
        rw [heq] at h1
        rcases Nat.lt_or_ge i listed.size with h' | h'
        · simp [h'] at h0 h1; rw [h0] at h1; cases h1
        · simp [Array.getElem?_eq_none h'] at h1
      have h2 := wpOp_putIf hoj (hfree j oj hoj hji hjun hnot) (fun cs b => hsel i oi cs b hi) (fun cs b => hsel j oj cs b hoj) hQ hy h1
      have sub : ∀ k, (listed.setIfInBounds j true).getD k true = false → listed.getD k true = false := fun k hun => by
        by_cases hjk : j = k
        · subst hjk; exact hjun
        · rw [getD_set_ne true hjk] at hun; exact hun
      have hsp : f.spoil j = false := hdm.dm hj hji
      refine wpOp_mono (fun a' w' h3 => ?_) h2
      obtain ⟨h3, h4, h5⟩ := h3
      refine ⟨fun g hg => h4 g (List.mem_cons_of_mem _ hg), ih _ (listed.setIfInBounds j true) a' w' (fun k ok hk hki hun hno => hfree k ok hk hki (sub k hun) hno) (hdm.set hj hji) (ready_mono hr (Ne.symm hji)) h3 (h4 f (List.mem_cons_self ..) hsp hS) ?_⟩
      rw [Array.setIfInBounds_comm _ _ hji]
      rw [List.filter_cons, if_pos (by rw [hsp]; rfl)] at h5
      exact h5

theorem wp_region_F {id : Nat} {a : Act} {w : World} (hm : P.follows .mixedOrders = true)
    (h : wpAnyF P .any ops Q ops.size [] (Array.replicate ops.size false) a { w with drawn := w.drawn + 1 }) : (Code.region id ops true).wp P Q a w :=
  wp_region_any hm (wpAny_of_F _ _ _ _ _ h)
end

/-! ### the abstract walk -/
inductive Stp where
  | w (i : Nat) (T : List Nat)   -- a look into memory, taken first; T: it and what comes behind it
  | p (i : Nat)   -- taken first; it looks into no memory
  | o (i : Nat)   -- the only one that may come
  | a (i : Nat)   -- a hidden variable is made, here at the latest

def Stp.no : Stp → Nat
  | .w i _ | .p i | .o i | .a i => i

/-- Operations that leave all that is tracked as it is (and may make new blocks). -/
def isLe (ρ : Slots) (o : Op) : Bool :=
  isSil o || match o with
    | .alloc _ | .box .. | .buildSlice .. | .makeSlice .. | .makeMap .. => true
    | .store _ a _ => match ev ρ a with
      | .box .. | .boxi .. => true
      | _ => false
    | _ => false

def le (h h' : Heap) : Prop := ∀ b o, h b = some o → h' b = some o
theorem le.refl (h : Heap) : le h h := fun _ _ e => e
theorem le.trans {h1 h2 h3 : Heap} (a : le h1 h2) (b : le h2 h3) : le h1 h3 := fun x o e => b x o (a x o e)
theorem le_upd {h : Heap} {b : Nat} (e : h b = none) (o : HObj) : le h (upd h b o) := fun x y hx => by
  rw [upd_ne]
  · exact hx
  · intro c; subst c; rw [e] at hx; cases hx
theorem le.sub {h h' : Heap} {w : World} (l : le h h') (s : Sub h' w) : Sub h w := fun b o e => s b o (l b o e)

theorem effI_le {P : Program} {F : List Nat} {hid : Bool} {o : Oper} {ρ : Slots} {β : Boxes} {h : Heap} {K : Slots → Boxes → Heap → Prop} (hs : isSil o.op = false) (hl : isLe ρ o.op = true)
    (hm : effI P F hid o ρ β h K) : effI P F hid o ρ β h fun ρ' β' h' => le h h' ∧ K ρ' β' h' := by
  unfold isLe at hl
  rw [hs] at hl
  simp only [Bool.false_or] at hl
  unfold effI at hm ⊢
  have hhide : ∀ {d : Option Nat} {l : List Ent}, hideI F d l ρ β h K → hideI F d l ρ β h fun ρ' β' h' => le h h' ∧ K ρ' β' h' := by
    intro d l hh
    unfold hideI at hh ⊢
    split at hh
    · rename_i d
      cases hf : F.contains d
      · rw [hf] at hh; exact ⟨le.refl h, hh⟩
      · rw [hf] at hh; exact hh.elim
    · exact hh.elim
  have hnew : ∀ {l : List Value} {g : Addr → TV}, new h l (fun a h' => K (putS ρ o.dst (g a)) β h') → new h l (fun a h' => le h h' ∧ K (putS ρ o.dst (g a)) β h') := by
    intro l g hh b hb
    exact ⟨le_upd hb _, hh b hb⟩
  split at hm
  · split at hm
    · rename_i k hk
      cases hid
      · simp only [cond_false] at hm ⊢; exact hnew (g := fun a => .v .ptr (some a)) hm
      · simp only [cond_true] at hm ⊢; exact hhide hm
    · exact hm.elim
  · split at hm
    · rename_i k hk
      split at hm
      · rename_i y hy
        cases hp : k.plain
        · rw [hp] at hm; exact hm.elim
        · rw [hp] at hm
          simp only [cond_true] at hm ⊢
          cases hid
          · simp only [cond_false] at hm ⊢; exact hnew (g := fun a => .v .ptr (some a)) hm
          · simp only [cond_true] at hm ⊢; exact hhide hm
      · exact hm.elim
    · exact hm.elim
  · rename_i T a x ho
    rw [ho] at hl
    simp only at hl
    unfold storeI at hm ⊢
    split at hm
    · rename_i k hk
      split at hm
      · rename_i y hy
        have fl : ∀ {p : Prop}, flatOr k y p → flatOr k y (le h h ∧ p) := by
          intro p q
          unfold flatOr at q ⊢
          cases hfl : k.flat
          · rw [hfl] at q; exact ⟨q.1, le.refl h, q.2⟩
          · rw [hfl] at q; exact ⟨le.refl h, q⟩
        split at hm
        · rename_i e; rw [e] at hl; cases hl
        · rename_i i off e
          cases hf : F.contains i
          · rw [hf] at hm
            simp only [cond_false] at hm ⊢
            split at hm
            · split at hm
              · exact fl hm
              · exact hm.elim
            · exact hm.elim
          · rw [hf] at hm; exact hm.elim
        · rename_i i off n' sz ix e
          cases hf : F.contains i
          · rw [hf] at hm
            simp only [cond_false] at hm ⊢
            split at hm
            · split at hm
              · split at hm
                · cases hz : Nat.beq k.size sz
                  · rw [hz] at hm; exact hm.elim
                  · rw [hz] at hm; exact fl hm
                · exact hm.elim
              · exact hm.elim
            · exact hm.elim
          · rw [hf] at hm; exact hm.elim
        · exact hm.elim
      · exact hm.elim
    · exact hm.elim
  · rename_i T len parts ho
    unfold litI at hm ⊢
    split at hm
    · split at hm
      · rename_i k hk
        split at hm
        · rename_i xs hxs
          cases c : (Nat.beq xs.length len && Nat.ble (len * k.size) 16777216 && k.plain && !(Nat.beq k.size 0))
          · rw [c] at hm; exact hm.elim
          · rw [c] at hm
            exact fun b hb => ⟨le_upd hb _, hm b hb⟩
        · exact hm.elim
      · exact hm.elim
    · exact hm.elim
  · unfold makeI at hm ⊢
    split at hm
    · split at hm
      · rename_i k i hk hi
        cases hz : Nat.beq k.size 0
        · rw [hz] at hm
          simp only [cond_false] at hm ⊢
          split at hm
          · exact ⟨hm.1, fun b hb => ⟨le_upd hb _, hm.2 b hb⟩⟩
          · exact hm.elim
        · rw [hz] at hm; exact hm.elim
      · exact hm.elim
    · exact hm.elim
  · rename_i T ho
    unfold mkMapI at hm ⊢
    split at hm
    · exact fun b hb => ⟨le_upd hb _, hm b hb⟩
    · exact hm.elim
  · rename_i ho; rw [ho] at hl; cases hl
  · rename_i ho; rw [ho] at hl; cases hl
  · rename_i ho; rw [ho] at hl; cases hl
  · exact hm.elim

def pendOf : List Stp → Option Nat
  | [] => none
  | .a i :: _ => some i
  | _ :: r => pendOf r
/-- The slot of a hidden variable that is still to be made is of no use. -/
def junkP (ops : Array Oper) (p : Option Nat) (ρ : Slots) : Slots :=
  match p with
  | some i => match ops[i]? with
    | some o => putS ρ o.dst .junk
    | none => ρ
  | none => ρ
/-- What the operation that makes a hidden variable anywhere must be. -/
def pendOk (P : Program) (n : Nat) (F : List Nat) (ops : Array Oper) : Option Nat → Bool
  | none => true
  | some i => match ops[i]? with
    | some o => o.guard.isNone && (match o.op, o.dst with
      | .alloc T, some d => (kdOf P D T).isSome && !(F.contains d) && dstOk n (some d)
      | _, _ => false)
    | none => false
/-- What was looked at, and that operations not in T must leave. -/
inductive Watch where
  | hp (T : List Nat) (p : Option Addr) (k : Kd) (x : Den k)
  | bx (T : List Nat) (d : Nat) (l : List Ent)
def Watch.T : Watch → List Nat
  | .hp T _ _ _ => T
  | .bx T _ _ => T
def wadd (T : List Nat) (a : TV) (β : Boxes) (v : TV) (ws : List Watch) : List Watch :=
  match a with
  | .v .ptr p => match v with
    | .v k x => .hp T p k x :: ws
    | _ => ws
  | .box d _ => match look β d with
    | some l => .bx T d l :: ws
    | none => ws
  | .boxi d _ _ _ _ => match look β d with
    | some l => .bx T d l :: ws
    | none => ws
  | _ => ws
def wdel (i : Nat) (ws : List Watch) : List Watch := ws.filter fun w => !(w.T.contains i)
/-- Does the operation write into this hidden variable, or make it? -/
def tch (ρ : Slots) (o : Oper) (d : Nat) : Bool :=
  o.dst.toList.contains d || match o.op with
    | .store _ a _ => match ev ρ a with
      | .box i _ => Nat.beq i d
      | .boxi i _ _ _ _ => Nat.beq i d
      | _ => false
    | _ => false
def wbox (ρ : Slots) (o : Oper) : List Watch → Bool
  | [] => true
  | .bx _ d _ :: r => !(tch ρ o d) && wbox ρ o r
  | _ :: r => wbox ρ o r
/-- There it still stands. -/
def sees (h : Heap) (p : Option Addr) (k : Kd) (x : Den k) : Prop :=
  match p with
  | some a => cellsAt h a (k.cells x)
  | none => True
def obl (h : Heap) : List Watch → Prop → Prop
  | [], p => p
  | .hp _ q k x :: r, p => sees h q k x ∧ obl h r p
  | .bx _ _ _ :: r, p => obl h r p

/-- The walk through a region that draws its order; pk: hidden variables that it does not write. -/
def regDI (P : Program) (n : Nat) (F : List Nat) (ops : Array Oper) (hid pk : List Nat) : List Stp → List Watch → Slots → Boxes → Heap → (Slots → Boxes → Heap → Prop) → Prop
  | [], _, ρ, β, h, K => K ρ β h
  | s :: r, ws, ρ, β, h, K => match ops[s.no]? with
    | none => False
    | some o => bif dstOk n o.dst then guardI ops o (junkP ops (pendOf (s :: r)) ρ) fun ρ want =>
      bif want then match s with
        | .w _ T => match o.op with
          | .load Ty x => loadM P Ty (ev ρ x) β h fun v => regDI P n F ops hid pk r (wadd T (ev ρ x) β v ws) (putS ρ o.dst v) β h K
          | _ => False
        | .p _ => bif isSil o.op then silM P o.op ρ [] (fun _ => none) fun v => regDI P n F ops hid pk r ws (putS ρ o.dst v) β h K else False
        | .o i => bif isSil o.op then silM P o.op ρ β h fun v => regDI P n F ops hid pk r ws (putS ρ o.dst v) β h K
          else bif wbox ρ o (wdel i ws) then effI P F (hid.contains i) o ρ β h fun ρ' β' h' => bif isLe ρ o.op then regDI P n F ops hid pk r (wdel i ws) ρ' β' h' K else obl h' (wdel i ws) (regDI P n F ops hid pk r (wdel i ws) ρ' β' h' K)
            else False
        | .a i => bif isSil o.op then False else bif wbox ρ o ws && β.all (fun p => !(F.contains p.1) || pk.contains p.1) then effI P F true o ρ β h fun ρ β h => regDI P n F ops hid pk r ws ρ β h K else False
      else regDI P n F ops hid pk r ws (putS ρ o.dst .und) β h K
      else False

/-- Is T what comes behind i, whatever the order? -/
def behindOk (ops : Array Oper) (listed : Array Bool) (i : Nat) (T : List Nat) : Bool :=
  T.all fun j => !(listed.getD j true) && (j == i || (match ops[j]? with | some oj => oj.after.any fun e => Region.binds .any e && T.contains e.on | none => false))
/-- May this step be taken so, where these are listed? E: what may come in any place. -/
def chk (ops : Array Oper) (E : List Nat) : Stp → Array Bool → Bool
  | .w i T, listed => (Region.ready .any ops listed).contains i && Region.free .any ops listed i && behindOk ops listed i T
  | .p i, listed => (Region.ready .any ops listed).contains i && Region.free .any ops listed i
  | .o i, listed => (Region.ready .any ops listed).contains i && (Region.ready .any ops listed).all fun j => j == i || E.contains j
  | .a i, listed => (Region.ready .any ops listed).contains i && (Region.ready .any ops listed).all fun j => j == i
/-- Other slots? -/
def apartD (ops : Array Oper) (i j : Nat) : Bool :=
  match ops[i]?, ops[j]? with
  | some a, some b => match a.dst, b.dst with
    | some x, some y => !(Nat.beq x y)
    | _, _ => true
  | _, _ => false
/-- May the steps be taken so? The first: the hidden variable that is still to be made. -/
def stepsOk (ops : Array Oper) : Option Nat → List Stp → Array Bool → Bool
  | none, [], listed => (Region.ready .any ops listed).isEmpty
  | some _, [], _ => false
  | none, .a _ :: _, _ => false
  | none, s :: r, listed => chk ops [] s listed && stepsOk ops none r (listed.setIfInBounds s.no true)
  | some i, .a j :: r, listed => Nat.beq i j && chk ops [] (.a j) listed && stepsOk ops none r (listed.setIfInBounds j true)
  | some i, s :: r, listed => !(Nat.beq s.no i) && apartD ops s.no i && chk ops [i] s listed && chk ops [] s (listed.setIfInBounds i true) && stepsOk ops (some i) r (listed.setIfInBounds s.no true)

end Go.Mx
