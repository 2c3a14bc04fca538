/-
  Regions that draw their order: one walk in one order serves every order.
-/
import Derived.Test.YtanfmmcpjifgiaaMxL
import Derived.OrdersHeld
set_option linter.unusedVariables false
set_option linter.unusedSimpArgs false
namespace Go.Mx

section
variable {P : Program} {ops : Array Oper} {Q : Exit → Act → World → Prop} {md : Region.Mode} {S : World → Prop} {Dm : Nat → Bool}

/-- Whatever order is picked from here on; S holds behind every operation that is not marked. -/
def wpAnyD (P : Program) (md : Region.Mode) (ops : Array Oper) (Q : Exit → Act → World → Prop) (S : World → Prop) (Dm : Nat → Bool) : Nat → Array Bool → Act → World → Prop
  | 0, listed, a, w => Region.ready md ops listed = [] ∧ Q .normal a w
  | fuel + 1, listed, a, w =>
    (Region.ready md ops listed = [] → Q .normal a w) ∧
    ∀ i ∈ Region.ready md ops listed, wpOp P ops Q i (fun a' w' => (Dm i = false → S w') ∧ wpAnyD P md ops Q S Dm fuel (listed.setIfInBounds i true) a' w') a w

theorem wpAny_of_D : ∀ (fuel : Nat) (listed : Array Bool) (a : Act) (w : World), wpAnyD P md ops Q S Dm fuel listed a w → wpAny P md ops Q fuel listed a w
  | 0, _, _, _, h => h
  | fuel + 1, _, _, _, h => ⟨h.1, fun i hi => wpOp_mono (fun a' w' h' => wpAny_of_D fuel _ a' w' h'.2) (h.2 i hi)⟩

/-- Marked operations that are still to come come behind i. -/
def Behind (md : Region.Mode) (ops : Array Oper) (Dm : Nat → Bool) (listed : Array Bool) (i : Nat) : Prop :=
  ∃ T : Nat → Prop, (∀ j, T j → listed.getD j true = false) ∧ (∀ j, T j → j ≠ i → ∃ oj, ops[j]? = some oj ∧ ∃ e ∈ oj.after, Region.binds md e = true ∧ T e.on) ∧ ∀ j oj, ops[j]? = some oj → j ≠ i → listed.getD j true = false → ¬ T j → Dm j = false
theorem Behind.not {md : Region.Mode} {ops : Array Oper} {listed : Array Bool} {i j : Nat} {T : Nat → Prop} (h1 : ∀ j, T j → listed.getD j true = false)
    (h2 : ∀ j, T j → j ≠ i → ∃ oj, ops[j]? = some oj ∧ ∃ e ∈ oj.after, Region.binds md e = true ∧ T e.on) (hj : j ∈ Region.ready md ops listed) (hji : j ≠ i) : ¬ T j := by
  intro hT
  obtain ⟨_, oj, hoj, hall⟩ := mem_ready.1 hj
  obtain ⟨oj', hoj', e, he, hb, hTe⟩ := h2 j hT hji
  rw [hoj] at hoj'; cases hoj'
  have h3 := hall e he hb
  have h0 := h1 _ hTe
  rcases Nat.lt_or_ge e.on listed.size with h' | h'
  · simp [h'] at h0 h3; rw [h0] at h3; cases h3
  · simp [Array.getElem?_eq_none h'] at h3
theorem Behind.dm {md : Region.Mode} {ops : Array Oper} {Dm : Nat → Bool} {listed : Array Bool} {i j : Nat} (h : Behind md ops Dm listed i) (hj : j ∈ Region.ready md ops listed) (hji : j ≠ i) : Dm j = false := by
  obtain ⟨T, h1, h2, h3⟩ := h
  obtain ⟨hjun, oj, hoj, hall⟩ := mem_ready.1 hj
  exact h3 j oj hoj hji hjun (Behind.not h1 h2 hj hji)
theorem Behind.set {md : Region.Mode} {ops : Array Oper} {Dm : Nat → Bool} {listed : Array Bool} {i j : Nat} (h : Behind md ops Dm listed i) (hj : j ∈ Region.ready md ops listed) (hji : j ≠ i) : Behind md ops Dm (listed.setIfInBounds j true) i := by
  obtain ⟨T, h1, h2, h3⟩ := h
  have hn := Behind.not h1 h2 hj hji
  refine ⟨T, fun k hk => ?_, h2, fun k ok hk hki hun hT => h3 k ok hk hki ?_ hT⟩
  · have hjk : j ≠ k := fun e => by subst e; exact hn hk
    rw [getD_set_ne true hjk]; exact h1 k hk
  · by_cases hjk : j = k
    · subst hjk; exact (mem_ready.1 hj).1
    · rw [getD_set_ne true hjk] at hun; exact hun

theorem wpAnyD_first {S' : World → Prop} {i : Nat} {oi : Oper} {v : Value} (hi : ops[i]? = some oi) (hsel : ∀ (j : Nat) (o : Oper) cs b, ops[j]? = some o → o.op ≠ .select cs b)
    (hQ : ∀ c a w, Q (.panic c) (a.put oi.dst v) w → Q (.panic c) a w) (hSS : ∀ w, S w → S' w) :
    ∀ (fuel : Nat) (listed : Array Bool) (a : Act) (w : World),
      (∀ j oj, ops[j]? = some oj → j ≠ i → listed.getD j true = false → (∀ e ∈ oj.after, Region.binds md e = true → e.on ≠ i) → oi.apart ops oj = true) →
      (Behind md ops Dm listed i ∨ (Dm i = true ∧ ∀ w, S' w)) →
      i ∈ Region.ready md ops listed → YieldsIf P ops S' oi v a → S' w → (Dm i = false → S w) →
      wpAnyD P md ops Q S Dm fuel (listed.setIfInBounds i true) (a.put oi.dst v) w → wpAnyD P md ops Q S Dm (fuel + 1) listed a w := by
  intro fuel
  induction fuel with
  | zero =>
    intro listed a w _ _ hr hy hS hSi H
    refine ⟨fun h => (by rw [h] at hr; cases hr), fun j hj => ?_⟩
    by_cases hji : j = i
    · subst hji; exact hy.wpOp hi hS ⟨hSi, H⟩
    · have := ready_mono hj hji
      rw [H.1] at this
      cases this
  | succ fuel ih =>
    intro listed a w hfree hdm hr hy hS hSi H
    refine ⟨fun h => (by rw [h] at hr; cases hr), fun j hj => ?_⟩
    by_cases hji : j = i
    · subst hji; exact hy.wpOp hi hS ⟨hSi, H⟩
    · have h1 := H.2 j (ready_mono hj hji)
      obtain ⟨hjun, oj, hoj, hall⟩ := mem_ready.1 hj
      have hnot : ∀ e ∈ oj.after, Region.binds md e = true → e.on ≠ i := fun e he hb heq => by
        have h1 := hall e he hb
        have h0 := (mem_ready.1 hr).1
        rw [heq] at h1
        rcases Nat.lt_or_ge i listed.size with h' | h'
        · simp [h'] at h0 h1; rw [h0] at h1; cases h1
        · simp [Array.getElem?_eq_none h'] at h1
      have h2 := wpOp_putIf hoj (hfree j oj hoj hji hjun hnot) (fun cs b => hsel i oi cs b hi) (fun cs b => hsel j oj cs b hoj) hQ hy h1
      have sub : ∀ k, (listed.setIfInBounds j true).getD k true = false → listed.getD k true = false := fun k hun => by
        by_cases hjk : j = k
        · subst hjk; exact hjun
        · rw [getD_set_ne true hjk] at hun; exact hun
      refine wpOp_mono (fun a' w' h3 => ?_) h2
      refine ⟨h3.2.1, ih (listed.setIfInBounds j true) a' w' (fun k ok hk hki hun hno => hfree k ok hk hki (sub k hun) hno) ?_ (ready_mono hr (Ne.symm hji)) h3.1 ?_ ?_ ?_⟩
      · exact hdm.imp (fun hd => hd.set hj hji) id
      · rcases hdm with hd | hd
        · exact hSS w' (h3.2.1 (hd.dm hj hji))
        · exact hd.2 w'
      · intro hdi
        rcases hdm with hd | hd
        · exact h3.2.1 (hd.dm hj hji)
        · rw [hd.1] at hdi; cases hdi
      · rw [Array.setIfInBounds_comm _ _ hji]
        exact h3.2.2

theorem wpAnyD_only {i : Nat} {fuel : Nat} {listed : Array Bool} {a : Act} {w : World} (hr : Region.ready md ops listed = [i])
    (h : wpOp P ops Q i (fun a' w' => (Dm i = false → S w') ∧ wpAnyD P md ops Q S Dm fuel (listed.setIfInBounds i true) a' w') a w) : wpAnyD P md ops Q S Dm (fuel + 1) listed a w :=
  ⟨fun h0 => (by rw [hr] at h0; cases h0), fun j hj => by rw [hr] at hj; simp at hj; subst hj; exact h⟩

theorem wp_region_D {id : Nat} {a : Act} {w : World} (hm : P.follows .mixedOrders = true)
    (h : wpAnyD P .any ops Q S Dm ops.size (Array.replicate ops.size false) a { w with drawn := w.drawn + 1 }) : (Code.region id ops true).wp P Q a w :=
  wp_region_any hm (wpAny_of_D _ _ _ _ h)
end

/-! ### the abstract walk -/
inductive Stp where
  | t (i : Nat)   -- taken first; it reads what nothing beside it writes
  | p (i : Nat)   -- taken first; it looks into no memory
  | o (i : Nat)   -- the only one that may come

def Stp.no : Stp → Nat
  | .t i | .p i | .o i => i

/-- Operations that leave all that is tracked as it is (and may make new blocks). -/
def isLe (ρ : Slots) (o : Op) : Bool :=
  isSil o || match o with
    | .alloc _ | .box .. | .buildSlice .. | .makeSlice .. => true
    | .store _ a _ => match ev ρ a with
      | .box .. | .boxi .. => true
      | _ => false
    | _ => false

def le (h h' : Heap) : Prop := ∀ b o, h b = some o → h' b = some o
theorem le.refl (h : Heap) : le h h := fun _ _ e => e
theorem le.trans {h1 h2 h3 : Heap} (a : le h1 h2) (b : le h2 h3) : le h1 h3 := fun x o e => b x o (a x o e)
theorem le_upd {h : Heap} {b : Nat} (e : h b = none) (o : HObj) : le h (upd h b o) := fun x y hx => by
  rw [upd_ne]
  · exact hx
  · intro c; subst c; rw [e] at hx; cases hx
theorem le.sub {h h' : Heap} {w : World} (l : le h h') (s : Sub h' w) : Sub h w := fun b o e => s b o (l b o e)

theorem effI_le {P : Program} {F : List Nat} {hid : Bool} {o : Oper} {ρ : Slots} {β : Boxes} {h : Heap} {K : Slots → Boxes → Heap → Prop} (hs : isSil o.op = false) (hl : isLe ρ o.op = true)
    (hm : effI P F hid o ρ β h K) : effI P F hid o ρ β h fun ρ' β' h' => le h h' ∧ K ρ' β' h' := by
  unfold isLe at hl
  rw [hs] at hl
  simp only [Bool.false_or] at hl
  unfold effI at hm ⊢
  have hhide : ∀ {d : Option Nat} {l : List Ent}, hideI F d l ρ β h K → hideI F d l ρ β h fun ρ' β' h' => le h h' ∧ K ρ' β' h' := by
    intro d l hh
    unfold hideI at hh ⊢
    split at hh
    · rename_i d
      cases hf : F.contains d
      · rw [hf] at hh; exact ⟨le.refl h, hh⟩
      · rw [hf] at hh; exact hh.elim
    · exact hh.elim
  have hnew : ∀ {l : List Value} {g : Addr → TV}, new h l (fun a h' => K (putS ρ o.dst (g a)) β h') → new h l (fun a h' => le h h' ∧ K (putS ρ o.dst (g a)) β h') := by
    intro l g hh b hb
    exact ⟨le_upd hb _, hh b hb⟩
  split at hm
  · split at hm
    · rename_i k hk
      cases hid
      · simp only [cond_false] at hm ⊢; exact hnew (g := fun a => .v .ptr (some a)) hm
      · simp only [cond_true] at hm ⊢; exact hhide hm
    · exact hm.elim
  · split at hm
    · rename_i k hk
      split at hm
      · rename_i y hy
        cases hp : k.plain
        · rw [hp] at hm; exact hm.elim
        · rw [hp] at hm
          simp only [cond_true] at hm ⊢
          cases hid
          · simp only [cond_false] at hm ⊢; exact hnew (g := fun a => .v .ptr (some a)) hm
          · simp only [cond_true] at hm ⊢; exact hhide hm
      · exact hm.elim
    · exact hm.elim
  · rename_i T a x ho
    rw [ho] at hl
    simp only at hl
    unfold storeI at hm ⊢
    split at hm
    · rename_i k hk
      split at hm
      · rename_i y hy
        have fl : ∀ {p : Prop}, flatOr k y p → flatOr k y (le h h ∧ p) := by
          intro p q
          unfold flatOr at q ⊢
          cases hfl : k.flat
          · rw [hfl] at q; exact ⟨q.1, le.refl h, q.2⟩
          · rw [hfl] at q; exact ⟨le.refl h, q⟩
        split at hm
        · rename_i e; rw [e] at hl; cases hl
        · rename_i i off e
          cases hf : F.contains i
          · rw [hf] at hm
            simp only [cond_false] at hm ⊢
            split at hm
            · split at hm
              · exact fl hm
              · exact hm.elim
            · exact hm.elim
          · rw [hf] at hm; exact hm.elim
        · rename_i i off n' sz ix e
          cases hf : F.contains i
          · rw [hf] at hm
            simp only [cond_false] at hm ⊢
            split at hm
            · split at hm
              · split at hm
                · cases hz : Nat.beq k.size sz
                  · rw [hz] at hm; exact hm.elim
                  · rw [hz] at hm; exact fl hm
                · exact hm.elim
              · exact hm.elim
            · exact hm.elim
          · rw [hf] at hm; exact hm.elim
        · exact hm.elim
      · exact hm.elim
    · exact hm.elim
  · rename_i T len parts ho
    unfold litI at hm ⊢
    split at hm
    · split at hm
      · rename_i k hk
        split at hm
        · rename_i xs hxs
          cases c : (Nat.beq xs.length len && Nat.ble (len * k.size) 16777216 && k.plain && !(Nat.beq k.size 0))
          · rw [c] at hm; exact hm.elim
          · rw [c] at hm
            exact fun b hb => ⟨le_upd hb _, hm b hb⟩
        · exact hm.elim
      · exact hm.elim
    · exact hm.elim
  · unfold makeI at hm ⊢
    split at hm
    · split at hm
      · rename_i k i hk hi
        cases hz : Nat.beq k.size 0
        · rw [hz] at hm
          simp only [cond_false] at hm ⊢
          split at hm
          · exact ⟨hm.1, fun b hb => ⟨le_upd hb _, hm.2 b hb⟩⟩
          · exact hm.elim
        · rw [hz] at hm; exact hm.elim
      · exact hm.elim
    · exact hm.elim
  · rename_i ho; rw [ho] at hl; cases hl
  · exact hm.elim

/-- The walk through a region that draws its order: 'useH': what is read out of tracked memory first; 'mods': hidden variables that it writes; 'dm': operations behind which what was read is not asked for any more. -/
def regDI (P : Program) (n : Nat) (F : List Nat) (ops : Array Oper) (hid : List Nat) (useH : Bool) (dm : List Nat) (hS : Heap) (βS : Boxes) : List Stp → Slots → Boxes → Heap → (Slots → Boxes → Heap → Prop) → Prop
  | [], ρ, β, h, K => K ρ β h
  | s :: r, ρ, β, h, K => match ops[s.no]? with
    | none => False
    | some o => bif dstOk n o.dst then guardI ops o ρ fun ρ want =>
      bif want then match s with
        | .t _ => bif isSil o.op then silM P o.op ρ βS (bif useH then hS else fun _ => none) fun v => regDI P n F ops hid useH dm hS βS r (putS ρ o.dst v) β h K else False
        | .p _ => bif isSil o.op then silM P o.op ρ [] (fun _ => none) fun v => regDI P n F ops hid useH dm hS βS r (putS ρ o.dst v) β h K else False
        | .o i => bif isSil o.op then silM P o.op ρ β h fun v => regDI P n F ops hid useH dm hS βS r (putS ρ o.dst v) β h K
          else bif dm.contains i || !useH || isLe ρ o.op then effI P F (hid.contains i) o ρ β h fun ρ β h => regDI P n F ops hid useH dm hS βS r ρ β h K else False
      else regDI P n F ops hid useH dm hS βS r (putS ρ o.dst .und) β h K
      else False

/-- What comes behind i, whatever the order. -/
def behind : List Oper → Nat → List Nat → List Nat
  | [], _, acc => acc
  | o :: r, k, acc => behind r (k + 1) (bif o.after.any (fun e => Region.binds .any e && acc.contains e.on) then k :: acc else acc)
def behindOk (ops : Array Oper) (dm : List Nat) (listed : Array Bool) (i : Nat) (T : List Nat) : Bool :=
  (T.all fun j => !(listed.getD j true) && (j == i || (match ops[j]? with | some oj => oj.after.any fun e => Region.binds .any e && T.contains e.on | none => false))) && dm.all fun j => listed.getD j true || j == i || T.contains j
/-- May the steps be taken so? 'ok': does what was read still stand? -/
def stepsOk (ops : Array Oper) (dm : List Nat) : List Stp → Array Bool → Bool → Bool
  | [], listed, _ => (Region.ready .any ops listed).isEmpty
  | .t i :: r, listed, ok => ok && !(dm.contains i) && (Region.ready .any ops listed).contains i && Region.free .any ops listed i &&
      behindOk ops dm listed i (behind ops.toList 0 [i]) && stepsOk ops dm r (listed.setIfInBounds i true) ok
  | .p i :: r, listed, ok => (dm.contains i || (ok && behindOk ops dm listed i (behind ops.toList 0 [i]))) && (Region.ready .any ops listed).contains i && Region.free .any ops listed i && stepsOk ops dm r (listed.setIfInBounds i true) ok
  | .o i :: r, listed, ok => (dm.contains i || ok) && (match Region.ready .any ops listed with | [j] => j == i | _ => false) && stepsOk ops dm r (listed.setIfInBounds i true) (ok && !(dm.contains i))

end Go.Mx
