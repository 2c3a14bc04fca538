/-
  The law HistLegal in plain Lean.
-/
import Derived.Test.YtanfmmcpjifgiaaMxLd
set_option linter.unusedVariables false
set_option linter.unusedSimpArgs false
namespace Go.Mx

theorem histLegal_spec {calls order : Sl} {most : Int} {h0 : Heap} {cs : List Cl} {os : List Int} (ha : Arr h0 kapiCall calls cs) (ho : Arr h0 ki order os) (hn : calls.len ≤ 1048576) (hm : order.len ≤ 1048576) {Q : Bool → Heap → Prop} (hQ : ∀ h', le h0 h' → Q true h')
    {c1 : Sl → Heap → (Sl → Heap → Prop) → Prop} {c2 c6 : Sl → Int → Sl → Heap → (Bool → Heap → Prop) → Prop} {c3 : Sl → Sl → Heap → (Unit → Heap → Prop) → Prop} {c4 : Sl → Sl → Heap → (Bool → Heap → Prop) → Prop} {c5 : Sl → Heap → (Bool → Heap → Prop) → Prop}
    (i1 : ∀ {a h Q}, law4_moved.M a h Q → c1 a h Q)
    (i2 : ∀ {a o : Sl} {m : Int} {h : Heap} {us : List Cl} {vs : List Int} {Q : Bool → Heap → Prop}, Arr h kapiCall a us → Arr h ki o vs → a.len ≤ 2097152 → o.len ≤ 2097152 → (∀ (b : Bool) h', (b = true ↔ OkL us m vs) → le h h' → Q b h') → c2 a m o h Q)
    (i6 : ∀ {a o : Sl} {m : Int} {h : Heap} {us : List Cl} {vs : List Int} {Q : Bool → Heap → Prop}, Arr h kapiCall a us → Arr h ki o vs → a.len ≤ 2097152 → o.len ≤ 2097152 → (∀ (b : Bool) h', (b = true ↔ OkL us m vs) → le h h' → Q b h') → c6 a m o h Q)
    (i3 : ∀ {a b h Q}, law4_back.M a b h Q → c3 a b h Q) (i4 : ∀ {a b h Q}, law4_same.M a b h Q → c4 a b h Q) (i5 : ∀ {a h Q}, law4_marked.M a h Q → c5 a h Q) :
    law4_HistLegal.M c1 c2 c3 c4 c5 c6 calls most order h0 Q := by
  have hlo : order.len = os.length := ho.1.symm
  have hw : ∀ i : Nat, i < 9000000 → w64 ((i : Int) + 1) = ((i + 1 : Nat) : Int) := fun i hi => by rw [w64_of] <;> omega
  refine i1 (moved_spec ha (by omega) fun l h6 hl => ?_)
  have hll : l.len = calls.len := by rw [← hl.len, List.length_map, ha.1]
  refine Loop.up order.len (fun s => s.2.1) (fun i s h => ∃ zs : List Int, New h6 h ki s.1 zs ∧ zs.length = i) rfl ⟨[], New.nil h6 _, rfl⟩ ?_
  rintro i ⟨acc, j, u⟩ h go hi hc ⟨zs, hN, hzl⟩ hgo
  dsimp only at hc hN; subst hc
  have hal : acc.len = i := by rw [← hN.len, hzl]
  refine ⟨fun c => ?_, fun c => ?_⟩
  · have c : (i : Int) < (order.len : Int) := of_decide_eq_true c
    have c' : i < order.len := by omega
    have e1 : w64 (w64 ((order.len : Int) - 1) - (i : Int)) = ((order.len - 1 - i : Nat) : Int) := by
      have : w64 ((order.len : Int) - 1) = (order.len : Int) - 1 := by rw [w64_of] <;> omega
      rw [this, w64_of] <;> omega
    dsimp only
    rw [e1]
    have bnd : (0 : Int) ≤ ((order.len - 1 - i : Nat) : Int) ∧ ((order.len - 1 - i : Nat) : Int) < (order.len : Int) := ⟨by omega, by omega⟩
    refine ⟨bnd, (ho.le (hl.le.trans hN.le)).at bnd.1 bnd.2 rfl fun x hx => ?_⟩
    refine hN.app rfl rfl (by omega) fun t h' hN' => hgo c' _ _ (hw i (by omega)) ⟨_, hN', by simp [hzl]⟩
  have c : ¬ (i : Int) < (order.len : Int) := of_decide_eq_false c
  have hi : i = order.len := by omega
  subst hi
  refine hN.app rfl rfl (by omega) fun t h1 hN1 => ?_
  have hlen1 := hN1.len
  rw [List.length_append, hzl] at hlen1
  have hB : BayK h6 h1 ki (t.cut 0 (((order.len : Int) : Int).toNat) 1) zs (-77) := hN1.bay hzl
  have htc := hN1.own.self
  have hcl : (t.cut 0 (((order.len : Int) : Int).toNat) 1).len = order.len := rfl
  have hl1 : Bay h0 h1 l (cs.map moved1) := ⟨hl.own.le hB.le, hl.len, hl.cap, hl.le.trans hB.le, hl.new⟩
  have hlo' : ∀ x, blkOf (t.cut 0 (((order.len : Int) : Int).toNat) 1) x → ¬ blkOf l x := fun x p q => hl.own.blk q (hB.new x p)
  refine ⟨⟨by omega, by simp at hlen1; omega⟩, ?_⟩
  refine i2 hl1.arr hB.arr (by omega) (by rw [hcl]; omega) fun _ h2 _ le2 => ?_
  have hl2 : Bay h0 h2 l (cs.map moved1) := ⟨hl1.own.le le2, hl1.len, hl1.cap, hl1.le.trans le2, hl1.new⟩
  refine i3 (back_spec ha (by omega) hl2 (by simp) fun h3 hl3 hx3 => ?_)
  have hB3o := (hB.more le2).own.ext hx3 hlo'
  have hA3 : Arr h3 ki (t.cut 0 (((order.len : Int) : Int).toNat) 1) zs := by
    have := hB3o.arr
    rwa [← hB.len, List.take_left' rfl] at this
  refine i2 hl3.arr hA3 (by omega) (by rw [hcl]; omega) fun _ h4 _ le4 => ?_
  have hB4o := hB3o.le le4
  have hl4 := hl3.own.le le4
  have le04 : le h0 h4 := hl3.le.trans le4
  have so : ∀ x, blkOf (t.cut 0 (((order.len : Int) : Int).toNat) 1) x → h0 x = none := fun x p => hl.le.none (hB.new x p)
  refine Loop.up order.len (fun s => s.1) (fun i s h' => Own h' ki (t.cut 0 (((order.len : Int) : Int).toNat) 1) ((os.take i ++ zs.drop i) ++ [-77]) ∧ Ext (blkOf (t.cut 0 (((order.len : Int) : Int).toNat) 1)) h4 h') rfl ⟨by simpa using hB4o, .refl _ _⟩ ?_
  rintro i ⟨j, u⟩ h5 go hi hc ⟨hO, hX⟩ hgo
  dsimp only at hc; subst hc
  have hle5 : le h0 h5 := le_ext le04 hX so
  refine ⟨fun c => ?_, fun c => ?_⟩
  · have c : (i : Int) < (order.len : Int) := of_decide_eq_true c
    have c' : i < order.len := by omega
    refine ⟨⟨Int.natCast_nonneg i, c⟩, (ho.le hle5).at (Int.natCast_nonneg i) c rfl fun x hx => ?_⟩
    have hix : i < os.length := by omega
    have ex : os[i] = x := by simpa [hix] using hx
    refine ⟨⟨Int.natCast_nonneg i, by show (i : Int) < _; rw [hcl]; omega⟩, hO.set (i := (i : Int)) (Int.natCast_nonneg i) (by rw [hcl]; omega) rfl rfl ?_⟩
    intro h'' q1 q2
    refine hgo c' _ _ (hw i (by omega)) ⟨?_, hX.trans q2⟩
    have : ((os.take i ++ zs.drop i) ++ [-77]).set i x = (os.take (i + 1) ++ zs.drop (i + 1)) ++ [-77] := by
      have h1 : (os.take i).length = i := by rw [List.length_take]; omega
      have h2 : zs.drop i = zs[i] :: zs.drop (i + 1) := by rw [List.drop_eq_getElem_cons]
      rw [take_succ' os hix, h2, ex, List.append_assoc, List.set_append_right _ _ (by omega), h1, Nat.sub_self]
      simp only [List.cons_append, List.set_cons_zero, List.append_assoc, List.nil_append, List.singleton_append]
    rw [← this]
    exact q1
  have c : ¬ (i : Int) < (order.len : Int) := of_decide_eq_false c
  have hi : i = order.len := by omega
  subst hi
  rw [List.take_of_length_le (by omega), List.drop_of_length_le (by omega), List.append_nil] at hO
  have hB5 : BayK h0 h5 ki (t.cut 0 (((order.len : Int) : Int).toNat) 1) os (-77) := ⟨hO, by rw [hcl]; omega, hB.cap, hle5, so⟩
  have hl5 := hl4.ext hX (fun x p q => hlo' x q p)
  clear hgo c hO
  refine i2 (hl5.bay hl3.len) hB5.arr (by omega) (by rw [hcl]; omega) fun r33 h6' hr le6 => ?_
  have hB6 := hB5.more le6
  have hl6 := hl5.le le6
  have yes : ∀ (b : Bool), b = false → ∀ k, le h0 k → Arr k ki (t.cut 0 (((order.len : Int) : Int).toNat) 1) os → law4_HistLegal.j3 c6 calls most order Q t r33 (b, ()) k := by
    rintro b rfl k hk hA
    refine ⟨fun e => (by cases e), fun _ => ?_⟩
    refine Loop.up order.len (fun s => s.1) (fun i s k' => k' = k) rfl rfl ?_
    rintro i ⟨j, u⟩ k' go hi hc rfl hgo
    dsimp only at hc; subst hc
    refine ⟨fun c => ?_, fun c => ?_⟩
    · have c : (i : Int) < ((t.cut 0 (((order.len : Int) : Int).toNat) 1).len : Int) := of_decide_eq_true c
      have c' : i < order.len := by rw [hcl] at c; omega
      have hlt : i < os.length := by omega
      refine ⟨⟨Int.natCast_nonneg i, c⟩, ?_⟩
      have q1 := hA.2.2
      have q2 := (ho.le hk).2.2
      revert q1 q2
      cases e1 : (t.cut 0 (((order.len : Int) : Int).toNat) 1).a with
      | none => intro q1 q2; exfalso; rw [hcl] at q1; dsimp only at q1; omega
      | some a1 =>
      cases e2 : order.a with
      | none => intro q1 q2; exfalso; dsimp only at q2; omega
      | some a2 =>
      intro q1 q2
      refine ⟨⟨Int.natCast_nonneg i, by show (i : Int) < _; omega⟩, ⟨os[i], cellsAt_el (k := ki) q1 (by simp [hlt]), os[i], cellsAt_el (k := ki) q2 (by simp [hlt]), fun d => absurd rfl (of_decide_eq_true d), fun d => ?_⟩⟩
      exact hgo c' _ _ (hw i (by omega)) rfl
    · refine i6 (ha.le hk) (ho.le hk) (by omega) (by omega) fun r44 k2 hr2 lek => ?_
      have : (r33 == r44) = true := by
        have := hr.trans hr2.symm
        cases r33 <;> cases r44 <;> first | rfl | exact absurd (this.1 rfl) (by decide) | exact absurd (this.2 rfl) (by decide)
      rw [this]
      exact hQ _ (hk.trans lek)
  refine i4 (same_spec (hl6.bay hl3.len) (ha.le hB6.le) (by omega) ⟨fun e => (by cases e), fun _ => ?_⟩)
  refine i5 (marked_spec hl6 hl3.len hl3.cap (by omega) ⟨fun e => (by cases e), fun _ => ?_⟩)
  refine ⟨fun e => absurd rfl (of_decide_eq_true e), fun _ => ?_⟩
  have hwl : w64 (((t.cut 0 (((order.len : Int) : Int).toNat) 1).len : Int) + 1) = ((order.len + 1 : Nat) : Int) := hw order.len (by omega)
  have hcap8 := hB6.cap
  rw [hwl]
  have hroom := hB6.room (sz := 1)
  refine ⟨⟨by omega, ?_⟩, ⟨by omega, ?_⟩, ?_⟩
  · show ((order.len + 1 : Nat) : Int) ≤ ((t.cut 0 (((order.len : Int) : Int).toNat) 1).cap : Int)
    omega
  · show ((t.cut 0 (((order.len : Int) : Int).toNat) 1).len : Int) < (((order.len + 1 : Nat) : Int).toNat - 0 : Nat)
    rw [hcl]; omega
  refine hroom.at (i := ((t.cut 0 (((order.len : Int) : Int).toNat) 1).len : Int)) (by omega) ?_ rfl fun y hy => ?_
  · show ((t.cut 0 (((order.len : Int) : Int).toNat) 1).len : Int) < (((t.cut 0 (((order.len : Int) : Int).toNat) 1).len + 1 - 0 : Nat) : Int)
    omega
  · have : y = -77 := by
      rw [Int.toNat_natCast, ← hB6.len, List.getElem?_append_right (Nat.le_refl _), Nat.sub_self] at hy
      simpa using hy.symm
    subst this
    exact yes _ (by simp) _ hB6.le hB6.arr

end Go.Mx
