/-
  The law ParkNew in plain Lean.
-/
import Derived.Test.YtppehoailhjdfaaMxPk
set_option linter.unusedVariables false
set_option linter.unusedSimpArgs false
namespace Go.Mx

theorem mems_new {h : Heap} {t : Sl} {bs : List Int} {h0 : Heap} (n : New h0 h ki t bs) {sz : Int} {K : Addr → Heap → Prop}
    (hK : ∀ b h', h b = none → Go.Mx.le h h' → MmS h0 h' b t ⟨none, 0, 0⟩ sz bs [] 0 → K (ptr b) h') : Go.Mx.new h (KMem.cells (t, (sz, (0, (Sl.none, ()))))) K := by
  refine Obj.new fun b h' hb ob l => hK b h' hb l ?_
  exact ⟨ob, n.more l, ⟨Own.nil _ _, rfl, n.le.trans l, fun x hx => by obtain ⟨a, e, _⟩ := hx; cases e⟩, n.le.none hb, fun hx => n.own.live b hx hb, fun hx => (by obtain ⟨a, e, _⟩ := hx; cases e), fun x _ hx => by obtain ⟨a, e, _⟩ := hx; cases e⟩

theorem parkC_len (w sz : Int) (cs : List Int) : (parkC w sz cs).length ≤ cs.length + 66 := by
  unfold parkC
  split
  · omega
  · split
    · omega
    · rw [List.length_append, List.length_replicate]; omega
theorem parkL_len (w sz : Int) (cs : List Int) (lg : List Acc) (who : Int) : (parkL w sz cs lg who).length ≤ lg.length + 1 := by
  unfold parkL
  split
  · omega
  · split
    · omega
    · simp

theorem parkNew_spec {h0 : Heap} {size workers : Int} {s : Sl} {bs : List Int} (ha : Arr h0 ki s bs) (hcap : s.len ≤ s.cap)
    {m1 : Int → Int → Heap → (Int → Heap → Prop) → Prop} {m2 : Int → Sl → Heap → ((Option Addr × (Bool × Unit)) → Heap → Prop) → Prop} {m3 : Value → Int → Heap → ((Den K2 × (Int × Unit)) → Heap → Prop) → Prop} {m4 : Option Addr → Int → Heap → ((Den K2 × (Int × Unit)) → Heap → Prop) → Prop}
    {m5 m7 : Option Addr → Heap → (Sl → Heap → Prop) → Prop} {m6 m8 : Sl → Sl → Heap → (Bool → Heap → Prop) → Prop} {m9 m10 : Int → Heap → (Int → Heap → Prop) → Prop}
    (i1 : ∀ {x n h Q}, law9_mod.M x n h Q → m1 x n h Q)
    (i2 : ∀ {h : Heap} {size : Int} {s : Sl} {bs : List Int} {Q}, Arr h ki s bs → 0 ≤ size → size ≤ 1048576 → (bs.length : Int) ≤ size → (∀ b c l h', Ar h h' b c l size bs [] 0 true → Q (some (ptr b), (true, ())) h') → m2 size s h Q)
    (i3 : ∀ {h0 h : Heap} {b : Nat} {c l : Sl} {sz w : Int} {cs : List Int} {Q}, Ar h0 h b c l sz cs [] 0 true → (cs.length : Int) ≤ sz → sz ≤ 1048576 → (∀ c' l' h', Ar h0 h' b c' l' sz (parkC w sz cs) (parkL w sz cs [] 0) 0 true → Step (fpA b c l) (fpA b c' l') h h' → Q (parkR w sz cs.length) h') → m3 (.iface 24 (.pointer (some (ptr b)))) w h Q)
    (i3' : ∀ {w h Q}, Q ((0, (0, ())), (1, ())) h → m3 .nilIface w h Q)
    (i4 : ∀ {h0 h : Heap} {b : Nat} {c l : Sl} {sz w : Int} {cs : List Int} {Q}, MmS h0 h b c l sz cs [] 0 → (cs.length : Int) ≤ sz → sz ≤ 1048576 → (∀ c' l' h', MmS h0 h' b c' l' sz (parkC w sz cs) (parkL w sz cs [] 0) 0 → Step (fpA b c l) (fpA b c' l') h h' → Q (parkR w sz cs.length) h') → m4 (some (ptr b)) w h Q)
    (i5 : ∀ {a h Q}, cells_Arena_Cells.M a h Q → m5 a h Q) (i6 : ∀ {a b h Q}, law9_sameInts.M a b h Q → m6 a b h Q) (i7 : ∀ {a h Q}, cells_Arena_Log.M a h Q → m7 a h Q) (i8 : ∀ {a b h Q}, law9_sameLog.M a b h Q → m8 a b h Q)
    (i9 : ∀ {a h Q}, park_Cells.M a h Q → m9 a h Q) (i10 : ∀ {a h Q}, ref9_Cells.M a h Q → m10 a h Q)
    {Q : Bool → Heap → Prop} (hQ : ∀ h', le h0 h' → Q true h') :
    law9_ParkNew.M m1 m2 m3 m4 m5 m6 m7 m8 m9 m10 size s workers h0 Q := by
  refine i1 (mod_spec (by decide) (by decide) fun r q0 q1 => ?_)
  have key : ∀ (t : Sl) (us : List Int), Arr h0 ki t us → (us.length : Int) ≤ r → law9_ParkNew.j5 m2 m3 m4 m5 m6 m7 m8 m9 m10 workers Q r (t, ()) h0 := by
    intro t us hu hle
    have hul := hu.1
    refine i2 hu q0 (by omega) hle fun b c l h10 o => ⟨fun e => (by cases e), fun _ => ?_⟩
    refine New.mk0 fun p11 h12 n12 => n12.apps (hu.le (o.le.trans n12.le)) rfl rfl (by show (0 + t.len) * 8 ≤ _; omega) fun t13 h14 n14 => ?_
    rw [List.nil_append] at n14
    have n14' : New h0 h14 ki t13 us := n14.base o.le
    refine mems_new n14' fun b2 h16 hb2 l16 mo => ?_
    have o14 : Ar h0 h14 b c l r us [] 0 true := o.more n14.le
    have o16 : Ar h0 h16 b c l r us [] 0 true := o14.more l16
    have dj : ∀ x, fpA b c l x → ¬ fpA b2 t13 ⟨none, 0, 0⟩ x := fun x p q => by
      rcases q with q | q | q
      · subst q; exact o14.live p hb2
      · exact o.live p (n14.new x q)
      · obtain ⟨a, e, _⟩ := q; cases e
    refine i3 o16 hle (by omega) fun c' l' h18 o18 s18 => ?_
    have mo18 := mo.ext s18.1 (fun x p q => dj x q p) (fun x q => o16.fresh q)
    have dj2 : ∀ x, fpA b c' l' x → ¬ fpA b2 t13 ⟨none, 0, 0⟩ x := fun x p q => by
      rcases s18.2 x p with d | d
      · exact dj x d q
      · exact mo.live q d
    refine i4 mo18 hle (by omega) fun c2 l2 h20 mo20 s20 => ?_
    have o20 := o18.ext s20.1 dj2 (fun x q => mo18.fresh q)
    have hc1 := parkC_len workers r us
    have hl1 := parkL_len workers r us [] 0
    simp only [List.length_nil] at hl1
    generalize parkC workers r us = C at *
    generalize parkL workers r us [] 0 = L at *
    generalize parkR workers r us.length = R
    refine ⟨fun e => absurd rfl (of_decide_eq_true e), fun _ => ⟨fun e => absurd rfl (of_decide_eq_true e), fun _ => ⟨fun e => absurd rfl (of_decide_eq_true e), fun _ => ?_⟩⟩⟩
    refine mo20.ld0 (i5 (cells_spec o20 (by omega) fun s34 h35 n35 => ?_))
    have mo35 := mo20.more n35.le
    have o35 := o20.more n35.le
    refine ⟨mo35.obj.sees (kf := .sl) (y := c2) ⟨[], _, rfl, rfl⟩, i6 (sameInts_spec n35.arr mo35.cell.arr (by omega) ⟨fun e => (by cases e), fun _ => ?_⟩)⟩
    refine mo35.ld3 (i7 (log_spec o35 (by omega) fun s39 h40 n40 => ?_))
    have mo40 := mo35.more n40.le
    refine ⟨mo40.obj.sees (kf := .sl) (y := l2) ⟨[c2.val, .int .i64 r, .int .i64 0], _, rfl, rfl⟩, i8 (sameLog_spec n40.arr mo40.log.arr (by omega) ⟨fun e => (by cases e), fun _ => ?_⟩)⟩
    refine i3' ⟨fun _ => ⟨fun _ => ⟨fun _ => i9 (pcells_spec (i10 (rcells_spec ?_))), fun e => (by cases e)⟩, fun e => (by cases e)⟩, fun e => (by cases e)⟩
    have : decide (parkE workers = parkE workers) = true := by simp
    rw [this]
    exact hQ _ mo40.le
  refine ⟨fun e => ⟨⟨q0, ?_⟩, ?_⟩, fun e => ?_⟩
  · have e : r < (s.len : Int) := of_decide_eq_true e
    omega
  · have e : r < (s.len : Int) := of_decide_eq_true e
    exact key _ _ (ha.pre (n := r.toNat) (by omega)) (by rw [List.length_take]; omega)
  · have e : ¬ r < (s.len : Int) := of_decide_eq_false e
    exact key _ _ ha (by rw [ha.1]; omega)

end Go.Mx
