/-
  Regions in the order of the text; code; functions.
-/
import Derived.Test.YtanfmmcpjifgiabMxK
set_option linter.unusedVariables false
set_option linter.unusedSimpArgs false
namespace Go.Mx

/-- Is a guarded operation wanted? The guard's slot becomes known. -/
def guardI (ops : Array Oper) (o : Oper) (ρ : Slots) (k : Slots → Bool → Prop) : Prop :=
  match o.guard with
  | none => k ρ true
  | some (j, want) => match (ops[j]?).bind (·.dst) with
    | some t => match ρ t with
      | .kb b => k ρ (b == want)
      | .und => k ρ false
      | .v .bool b => (b = true → k (putS ρ (some t) (.kb true)) (true == want)) ∧ (b = false → k (putS ρ (some t) (.kb false)) (false == want))
      | _ => False
    | none => False

def regI (P : Program) (n : Nat) (F : List Nat) (ops : Array Oper) (hid : List Nat) : List Nat → Slots → Boxes → Heap → (Slots → Boxes → Heap → Prop) → Prop
  | [], ρ, β, h, K => K ρ β h
  | i :: r, ρ, β, h, K => match ops[i]? with
    | none => False
    | some o => guardI ops o ρ fun ρ want =>
      bif want then opI P n F (hid.contains i) o ρ β h fun ρ β h => regI P n F ops hid r ρ β h K
      else bif dstOk n o.dst then regI P n F ops hid r (putS ρ o.dst .und) β h K else False

/-- The slots that a region writes. -/
def wrR (ops : Array Oper) : List Nat := ops.toList.filterMap (·.dst)

theorem Fr.refl {W F Z κ a w} : Fr W F Z κ a w κ a w := ⟨fun _ _ => rfl, fun _ _ => rfl, fun _ _ => rfl⟩
theorem Fr.trans {W F Z κ a w κ1 a1 w1 κ2 a2 w2} (x : Fr W F Z κ a w κ1 a1 w1) (y : Fr W F Z κ1 a1 w1 κ2 a2 w2) : Fr W F Z κ a w κ2 a2 w2 :=
  ⟨fun t ht => (y.slot t ht).trans (x.slot t ht), fun i hi => (y.id i hi).trans (x.id i hi), fun b hb => (y.blk b hb).trans (x.blk b hb)⟩
theorem Fr.mono {W W' F F' : List Nat} {Z Z' : Nat → Prop} {κ a w κ1 a1 w1} (x : Fr W F Z κ a w κ1 a1 w1) (hw : ∀ t, W'.contains t = false → W.contains t = false)
    (hf : ∀ i, F'.contains i = true → F.contains i = true) (hz : ∀ b, Z' b → Z b) : Fr W' F' Z' κ a w κ1 a1 w1 :=
  ⟨fun t ht => x.slot t (hw t ht), fun i hi => x.id i (hi.imp (hw i) (hf i)), fun b hb => x.blk b (hz b hb)⟩

theorem St.setSlot {h0 w0 n F Z κ ρ β h a w} (s : St h0 w0 n F Z κ ρ β h a w) (t : Nat) (v : TV) (hv : Rl κ v (a.tmps.getD t undef)) : St h0 w0 n F Z κ (putS ρ (some t) v) β h a w :=
  ⟨s.inv, s.box, s.inj, s.z, s.zf, s.size, fun t' => by
    simp only [putS]
    by_cases c : t' = t
    · subst c; simpa using hv
    · rw [beq_no c]; exact s.slot t', s.defers⟩

theorem yielded_of {ops : Array Oper} {a : Act} {j t : Nat} {b : Bool} (hj : (ops[j]?).bind (·.dst) = some t) (hb : a.tmps.getD t undef = .bool b) : yielded ops a.tmps j = some b := by
  unfold yielded
  rw [hj]
  simp only [Option.bind_some]
  have : a.tmps[t]? = some (.bool b) := by
    rw [Array.getD_eq_getD_getElem?] at hb
    cases e : a.tmps[t]? with
    | none => rw [e] at hb; cases hb
    | some v => rw [e] at hb; simp at hb; rw [hb]
  rw [this]

theorem guardI_spec {h0 w0 n F Z κ ρ β h a w} (s : St h0 w0 n F Z κ ρ β h a w) {ops : Array Oper} {o : Oper} {k : Slots → Bool → Prop} (hg : guardI ops o ρ k) :
    ∃ ρ', St h0 w0 n F Z κ ρ' β h a w ∧ k ρ' (Region.wanted o (yielded ops a.tmps)) := by
  unfold guardI at hg
  unfold Region.wanted
  split at hg
  · rename_i e
    rw [e]; exact ⟨ρ, s, hg⟩
  · rename_i j want e
    rw [e]
    split at hg
    · rename_i t ht
      have hs := s.slot t
      split at hg
      · rename_i b hb
        rw [hb] at hs
        simp only [yielded_of ht hs]
        exact ⟨ρ, s, by simpa using hg⟩
      · rename_i hb
        rw [hb] at hs
        have hy : yielded ops a.tmps j = none := by
          unfold yielded
          rw [ht]
          simp only [Option.bind_some]
          have hs : a.tmps.getD t undef = undef := hs
          rw [Array.getD_eq_getD_getElem?] at hs
          cases e : a.tmps[t]? with
          | none => rfl
          | some v => rw [e] at hs; simp at hs; rw [hs]; rfl
        simp only [hy]
        exact ⟨ρ, s, by simpa using hg⟩
      · rename_i b hb
        rw [hb] at hs
        simp only [yielded_of ht hs]
        cases b
        · refine ⟨_, s.setSlot t (.kb false) hs, ?_⟩
          have := hg.2 rfl
          simpa using this
        · refine ⟨_, s.setSlot t (.kb true) hs, ?_⟩
          have := hg.1 rfl
          simpa using this
      · exact hg.elim
    · exact hg.elim

theorem mem_wrR {ops : Array Oper} {i : Nat} {o : Oper} (h : ops[i]? = some o) {t : Nat} (ht : (wrR ops).contains t = false) : o.dst.toList.contains t = false := by
  cases e : o.dst with
  | none => rfl
  | some d =>
    simp only [Option.toList_some, List.contains_cons, List.contains_nil, Bool.or_false, beq_eq_false_iff_ne]
    intro c
    subst c
    have hm : t ∈ wrR ops := by
      unfold wrR
      rw [List.mem_filterMap]
      exact ⟨o, by simpa using Array.mem_of_getElem? h, e⟩
    have : (wrR ops).contains t = true := by simpa using hm
    rw [this] at ht; cases ht

theorem Oper.wp_weak {P : Program} {o : Oper} {a : Act} {w : World} {K : Act → World → Prop} {Q : Exit → Act → World → Prop} (h : o.wp P a w K NoExit) : o.wp P a w K Q := by
  unfold Oper.wp at *
  generalize (execOp a.eval o).run P w = r at *
  cases r with
  | ok n w' =>
    cases n <;> simp only [Oper.upon] at h ⊢ <;>
      first
        | exact h
        | exact Calls.mono h (fun e w'' he => by
            cases e
            · exact he
            · exact he.elim
            · obtain ⟨_, _, q⟩ := he; exact q.elim)
  | halt x w' => cases x <;> simp only [Oper.upon] at h ⊢ <;> exact h.elim

/-- What a state comes to behind code. -/
abbrev CodePost (h0 : Heap) (w0 : World) (n : Nat) (W F : List Nat) (Z : Nat → Prop) (κ : Nat → Nat) (a : Act) (w : World) (K : Slots → Boxes → Heap → Prop) (a' : Act) (w' : World) : Prop :=
  ∃ κ' ρ' β' h', St h0 w0 n F Z κ' ρ' β' h' a' w' ∧ Fr W F Z κ a w κ' a' w' ∧ K ρ' β' h'

theorem regI_sound {P : Program} {h0 w0 n F Z} {ops : Array Oper} {hid : List Nat} {K : Slots → Boxes → Heap → Prop} {Q : Exit → Act → World → Prop} :
    ∀ (l : List Nat) {κ ρ β h a w}, St h0 w0 n F Z κ ρ β h a w → regI P n F ops hid l ρ β h K →
      (∀ a' w', CodePost h0 w0 n (wrR ops) F Z κ a w K a' w' → Q .normal a' w') → wpOps P ops Q l a w
  | [], κ, ρ, β, h, a, w, s, hm, hQ => hQ a w ⟨κ, ρ, β, h, s, Fr.refl, hm⟩
  | i :: r, κ, ρ, β, h, a, w, s, hm, hQ => by
    simp only [regI] at hm
    simp only [wpOps]
    split at hm
    · exact hm.elim
    · rename_i o ho
      rw [ho]
      simp only
      obtain ⟨ρ1, s1, hm⟩ := guardI_spec s hm
      have hin : ∀ {d : Option Nat} {t : Nat}, d = o.dst → (wrR ops).contains t = false → d.toList.contains t = false := fun e ht => e ▸ mem_wrR ho ht
      cases hw : Region.wanted o (yielded ops a.tmps)
      · rw [hw] at hm
        simp only [cond_false] at hm
        cases hd : dstOk n o.dst
        · rw [hd] at hm; exact hm.elim
        · rw [hd] at hm
          simp only [cond_true] at hm
          obtain ⟨q1, q2⟩ := s1.step (v := .und) (u := undef) (Inv.refl s1.inv.sub) hd rfl
          simp only [Bool.false_eq_true, if_false]
          exact regI_sound r q1 hm fun a' w' ⟨κ', ρ', β', h', p1, p2, p3⟩ => hQ a' w' ⟨κ', ρ', β', h', p1, (q2.mono (fun t ht => hin rfl ht) (fun _ e => e) (fun _ e => e)).trans p2, p3⟩
      · rw [hw] at hm
        simp only [cond_true] at hm
        simp only [if_true]
        have hd : dstOk n o.dst = true := by
          cases hd : dstOk n o.dst
          · unfold opI at hm; rw [hd] at hm; exact hm.elim
          · rfl
        have hwp := opI_sound s1 hd hm
        refine .inl (Oper.wp_weak (Oper.wp_mono (fun a1 w1 hp => ?_) hwp))
        obtain ⟨κ1, ρ2, β1, h1, p1, p2, p3⟩ := hp
        exact regI_sound r p1 p3 fun a' w' ⟨κ', ρ', β', h', p4, p5, p6⟩ => hQ a' w' ⟨κ', ρ', β', h', p4, (p2.mono (fun t ht => hin rfl ht) (fun _ e => e) (fun _ e => e)).trans p5, p6⟩

end Go.Mx
