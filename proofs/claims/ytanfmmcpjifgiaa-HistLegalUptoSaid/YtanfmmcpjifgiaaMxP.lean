/-
  Regions that draw their order: soundness of the walk.
-/
import Derived.Test.YtanfmmcpjifgiaaMxO
set_option linter.unusedVariables false
set_option linter.unusedSimpArgs false
namespace Go.Mx

/-- What was read of the region's beginning still stands. -/
def Stands (Z : Nat → Prop) (useH : Bool) (hr : Heap) (wr w : World) : Prop := (∀ b, Z b → w.heap[b]? = wr.heap[b]?) ∧ (useH = true → Sub hr w)

theorem emptySub (w : World) : Sub (fun _ => none) w := fun b o e => by cases e

theorem effI_sound {P : Program} {h0 : Heap} {w0 : World} {n : Nat} {F : List Nat} {Z : Nat → Prop} {κ : Nat → Nat} {ρ : Slots} {β : Boxes} {h : Heap} {a : Act} {w : World} {o : Oper}
    {K : Slots → Boxes → Heap → Prop} (s : St h0 w0 n F Z κ ρ β h a w) (hd : dstOk n o.dst = true) {hid : Bool} (hs : isSil o.op = false) (hm : effI P F hid o ρ β h K) :
    o.wp P a w (OpPost h0 w0 n F Z o.dst κ a w K) NoExit := by
  refine opI_sound s hd (hid := hid) ?_
  unfold opI
  rw [hd, hs]
  exact hm

theorem dm_spec {ops : Array Oper} {dm : List Nat} {listed : Array Bool} {i : Nat} {T : List Nat} (h : behindOk ops dm listed i T = true) : Behind .any ops (fun i => dm.contains i) listed i := by
  simp only [behindOk, Bool.and_eq_true, List.all_eq_true, Bool.not_eq_true', Bool.or_eq_true, beq_iff_eq] at h
  obtain ⟨h1, h2⟩ := h
  refine ⟨fun j => j ∈ T, fun j hj => (h1 j hj).1, fun j hj hji => ?_, fun j oj hj hji hun hT => ?_⟩
  · rcases (h1 j hj).2 with c | c
    · exact absurd c hji
    · split at c
      · rename_i oj hoj
        obtain ⟨e, he, hb⟩ := Array.any_eq_true'.1 c
        simp only [Bool.and_eq_true] at hb
        exact ⟨oj, hoj, e, he, hb.1, by simpa using hb.2⟩
      · cases c
  · cases c : dm.contains j with
    | false => exact c
    | true =>
      rcases h2 j (by simpa using c) with (a | a) | a
      · rw [hun] at a; cases a
      · exact absurd a hji
      · exact absurd (by simpa using a) hT

theorem regDI_sound {P : Program} {h0 : Heap} {w0 : World} {n : Nat} {F : List Nat} {Z : Nat → Prop} {ops : Array Oper} {hid : List Nat} {useH : Bool} {dm : List Nat} {βS : Boxes} {K : Slots → Boxes → Heap → Prop} {Q : Exit → Act → World → Prop}
    {κr : Nat → Nat} {ρr : Slots} {βr : Boxes} {hr : Heap} {ar : Act} {wr : World} (sr : St h0 w0 n F Z κr ρr βr hr ar wr)
    (hβ : ∀ i l, look βS i = some l → look βr i = some l ∧ Z (κr i) ∧ F.contains i = true) (hsel : Region.noSelect ops = true) (hQp : ∀ c a w, ¬ Q (.panic c) a w) :
    ∀ (steps : List Stp) {listed : Array Bool} {ok : Bool} {κ ρ β h a w}, St h0 w0 n F Z κ ρ β h a w → Fr (wrR ops) F Z κr ar wr κ a w → (ok = true → useH = true → le hr h) →
      stepsOk ops dm steps listed ok = true → regDI P n F ops hid useH dm hr βS steps ρ β h K →
      (∀ a' w', CodePost h0 w0 n (wrR ops) F Z κr ar wr K a' w' → Q .normal a' w') →
      wpAnyD P .any ops Q (Stands Z useH hr wr) (fun i => dm.contains i) steps.length listed a w
  | [], listed, ok, κ, ρ, β, h, a, w, s, f, hle, hst, hm, hQ => by
    simp only [stepsOk, List.isEmpty_iff] at hst
    exact ⟨hst, hQ a w ⟨κ, ρ, β, h, s, f, hm⟩⟩
  | st :: r, listed, ok, κ, ρ, β, h, a, w, s, f, hle, hst, hm, hQ => by
    have hSof : ∀ {κ1 : Nat → Nat} {a1 : Act} {w1 : World} {ρ1 β1 h1}, St h0 w0 n F Z κ1 ρ1 β1 h1 a1 w1 → Fr (wrR ops) F Z κr ar wr κ1 a1 w1 → (useH = true → le hr h1) → Stands Z useH hr wr w1 :=
      fun q1 q2 q3 => ⟨fun b hb => q2.blk b hb, fun hu => (q3 hu).sub q1.inv.sub⟩
    simp only [regDI] at hm
    split at hm
    · exact hm.elim
    · rename_i o ho
      cases hd : dstOk n o.dst
      · rw [hd] at hm; exact hm.elim
      · rw [hd] at hm
        simp only [cond_true] at hm
        obtain ⟨ρ1, s1, hg⟩ := guardI_spec s hm
        clear hm
        have hin : ∀ {t : Nat}, (wrR ops).contains t = false → o.dst.toList.contains t = false := fun ht => mem_wrR ho ht
        -- an operation that leaves all as it is
        have quiet : ∀ {tv : TV} {u : Value}, Rl κ tv u → St h0 w0 n F Z κ (putS ρ1 o.dst tv) β h (a.put o.dst u) w ∧ Fr (wrR ops) F Z κr ar wr κ (a.put o.dst u) w := by
          intro tv u hrl
          obtain ⟨q1, q2⟩ := s1.step (Inv.refl s1.inv.sub) hd hrl
          exact ⟨q1, f.trans (q2.mono (fun t ht => hin ht) (fun _ e => e) (fun _ e => e))⟩
        cases hw : Region.wanted o (yielded ops a.tmps)
        · -- not wanted
          rw [hw] at hg
          simp only [cond_false] at hg
          obtain ⟨q1, q2⟩ := quiet (tv := .und) (u := undef) rfl
          have hy : ∀ S', YieldsIf P ops S' o undef a := fun S' => .inr ⟨hw, rfl⟩
          cases st with
          | t i =>
            have ho : ops[i]? = some o := ho
            simp only [stepsOk, Bool.and_eq_true, Bool.not_eq_true'] at hst
            obtain ⟨⟨⟨⟨⟨c1, c2⟩, c3⟩, c4⟩, c5⟩, c6⟩ := hst
            subst c1
            exact wpAnyD_first (S' := Stands Z useH hr wr) ho (Region.noSelect_spec hsel) (fun c a w hq => absurd hq (hQp c _ w)) (fun _ e => e) _ _ _ _ (Region.free_spec ho c4) (.inl (dm_spec c5)) (by simpa using c3) (hy _)
              (hSof s f (hle rfl)) (fun _ => hSof s f (hle rfl)) (regDI_sound sr hβ hsel hQp r q1 q2 hle c6 hg hQ)
          | p i =>
            have ho : ops[i]? = some o := ho
            simp only [stepsOk, Bool.and_eq_true] at hst
            obtain ⟨⟨⟨c1, c3⟩, c4⟩, c6⟩ := hst
            have := regDI_sound sr hβ hsel hQp r q1 q2 hle c6 hg hQ
            refine wpAnyD_first (S' := fun _ => True) ho (Region.noSelect_spec hsel) (fun c a w hq => absurd hq (hQp c _ w)) (fun _ _ => trivial) _ _ _ _ (Region.free_spec ho c4) ?_ (by simpa using c3) (hy _) trivial ?_ this
            · cases c : dm.contains i
              · rw [c] at c1; simp only [Bool.false_or, Bool.and_eq_true] at c1; exact .inl (dm_spec c1.2)
              · exact .inr ⟨rfl, fun _ => trivial⟩
            · intro hdi
              rw [hdi] at c1
              simp only [Bool.false_or, Bool.and_eq_true] at c1
              obtain ⟨c1, _⟩ := c1
              subst c1
              exact hSof s f (hle rfl)
          | o i =>
            simp only [stepsOk, Bool.and_eq_true] at hst
            obtain ⟨⟨c1, c3⟩, c6⟩ := hst
            split at c3
            · rename_i j hj
              simp only [beq_iff_eq] at c3
              subst c3
              have ho : ops[j]? = some o := ho
              refine wpAnyD_only hj ?_
              unfold wpOp
              rw [ho]
              simp only [hw, Bool.false_eq_true, if_false]
              refine ⟨fun hdi => ?_, regDI_sound sr hβ hsel hQp r q1 q2 (fun e => hle (by simp only [Bool.and_eq_true] at e; exact e.1)) c6 hg hQ⟩
              rw [hdi] at c1
              simp only [Bool.false_or] at c1
              subst c1
              exact hSof s f (hle rfl)
            · cases c3
        · -- wanted
          rw [hw] at hg
          simp only [cond_true] at hg
          cases st with
          | t i =>
            have ho : ops[i]? = some o := ho
            simp only [stepsOk, Bool.and_eq_true, Bool.not_eq_true'] at hst
            obtain ⟨⟨⟨⟨⟨c1, c2⟩, c3⟩, c4⟩, c5⟩, c6⟩ := hst
            subst c1
            simp only at hg
            cases hsil : isSil o.op
            · rw [hsil] at hg; exact hg.elim
            · rw [hsil] at hg
              simp only [cond_true] at hg
              obtain ⟨tv, u, k1, k2, k3⟩ := silM_sound hg s1.evOk
              obtain ⟨q1, q2⟩ := quiet k2
              have hsb : ∀ w', Stands Z useH hr wr w' → SB κ βS (bif useH then hr else fun _ => none) w' := by
                intro w' hS
                refine ⟨?_, fun j l e => ?_⟩
                · cases hu : useH
                  · exact emptySub w'
                  · exact hS.2 hu
                · obtain ⟨b1, b2, b3⟩ := hβ j l e
                  obtain ⟨⟨t, e1⟩, _, _⟩ := sr.box j l b1
                  rw [f.id j (.inr b3)]
                  exact ⟨t, (hS.1 _ b2).trans e1⟩
              exact wpAnyD_first (S' := Stands Z useH hr wr) ho (Region.noSelect_spec hsel) (fun c a w hq => absurd hq (hQp c _ w)) (fun _ e => e) _ _ _ _ (Region.free_spec ho c4) (.inl (dm_spec c5)) (by simpa using c3)
                (.inl ⟨hw, fun w' hS => k3 w' (hsb w' hS)⟩) (hSof s f (hle rfl)) (fun _ => hSof s f (hle rfl)) (regDI_sound sr hβ hsel hQp r q1 q2 hle c6 k1 hQ)
          | p i =>
            have ho : ops[i]? = some o := ho
            simp only [stepsOk, Bool.and_eq_true] at hst
            obtain ⟨⟨⟨c1, c3⟩, c4⟩, c6⟩ := hst
            simp only at hg
            cases hsil : isSil o.op
            · rw [hsil] at hg; exact hg.elim
            · rw [hsil] at hg
              simp only [cond_true] at hg
              obtain ⟨tv, u, k1, k2, k3⟩ := silM_sound hg s1.evOk
              obtain ⟨q1, q2⟩ := quiet k2
              have hsb : ∀ w', SB κ [] (fun _ => none) w' := fun w' => ⟨emptySub w', fun j l e => by cases e⟩
              have := regDI_sound sr hβ hsel hQp r q1 q2 hle c6 k1 hQ
              refine wpAnyD_first (S' := fun _ => True) ho (Region.noSelect_spec hsel) (fun c a w hq => absurd hq (hQp c _ w)) (fun _ _ => trivial) _ _ _ _ (Region.free_spec ho c4) ?_ (by simpa using c3)
                (.inl ⟨hw, fun w' _ => k3 w' (hsb w')⟩) trivial ?_ this
              · cases c : dm.contains i
                · rw [c] at c1; simp only [Bool.false_or, Bool.and_eq_true] at c1; exact .inl (dm_spec c1.2)
                · exact .inr ⟨rfl, fun _ => trivial⟩
              · intro hdi
                rw [hdi] at c1
                simp only [Bool.false_or, Bool.and_eq_true] at c1
                obtain ⟨c1, _⟩ := c1
                subst c1
                exact hSof s f (hle rfl)
          | o i =>
            simp only [stepsOk, Bool.and_eq_true] at hst
            obtain ⟨⟨c1, c3⟩, c6⟩ := hst
            split at c3
            · rename_i j hj
              simp only [beq_iff_eq] at c3
              subst c3
              have ho : ops[j]? = some o := ho
              refine wpAnyD_only hj ?_
              unfold wpOp
              rw [ho]
              simp only [hw, if_true]
              simp only at hg
              cases hsil : isSil o.op
              · rw [hsil] at hg
                simp only [cond_false] at hg
                cases hc : (dm.contains j || !useH || isLe ρ1 o.op)
                · rw [hc] at hg; exact hg.elim
                · rw [hc] at hg
                  simp only [cond_true] at hg
                  by_cases hl : isLe ρ1 o.op = true
                  · have hwp := effI_sound s1 hd hsil (effI_le hsil hl hg)
                    refine .inl (Oper.wp_weak (Oper.wp_mono (fun a1 w1 hp => ?_) hwp))
                    obtain ⟨κ1, ρ2, β1, h1, p1, p2, p3, p4⟩ := hp
                    have f1 := f.trans (p2.mono (fun t ht => hin ht) (fun _ e => e) (fun _ e => e))
                    refine ⟨fun hdi => ?_, regDI_sound sr hβ hsel hQp r p1 f1 (fun e hu => (hle (by simp only [Bool.and_eq_true] at e; exact e.1) hu).trans p3) c6 p4 hQ⟩
                    rw [hdi] at c1
                    simp only [Bool.false_or] at c1
                    subst c1
                    exact hSof p1 f1 (fun hu => (hle rfl hu).trans p3)
                  · have hwp := effI_sound s1 hd hsil hg
                    refine .inl (Oper.wp_weak (Oper.wp_mono (fun a1 w1 hp => ?_) hwp))
                    obtain ⟨κ1, ρ2, β1, h1, p1, p2, p4⟩ := hp
                    have f1 := f.trans (p2.mono (fun t ht => hin ht) (fun _ e => e) (fun _ e => e))
                    have hl' : isLe ρ1 o.op = false := by simpa using hl
                    rw [hl', Bool.or_false] at hc
                    refine ⟨fun hdi => ?_, regDI_sound sr hβ hsel hQp r p1 f1 (fun e hu => ?_) c6 p4 hQ⟩
                    · rw [hdi, Bool.false_or, Bool.not_eq_true'] at hc
                      exact hSof p1 f1 (fun hu => by rw [hc] at hu; cases hu)
                    · simp only [Bool.and_eq_true, Bool.not_eq_true'] at e
                      rw [e.2, hu] at hc
                      cases hc
              · rw [hsil] at hg
                simp only [cond_true] at hg
                obtain ⟨tv, u, k1, k2, k3⟩ := silM_sound hg s1.evOk
                obtain ⟨q1, q2⟩ := quiet k2
                refine .inl (Oper.wp_weak (wp_of_run (k3 w s1.sb) ⟨fun hdi => ?_, regDI_sound sr hβ hsel hQp r q1 q2 (fun e => hle (by simp only [Bool.and_eq_true] at e; exact e.1)) c6 k1 hQ⟩))
                rw [hdi] at c1
                simp only [Bool.false_or] at c1
                subst c1
                exact hSof s f (hle rfl)
            · cases c3

end Go.Mx
