/-
  The reference's arena (plunderref2): what its acts come to.
-/
import Derived.Test.YtppehoailhjdfabMxBl
set_option linter.unusedVariables false
set_option linter.unusedSimpArgs false
set_option linter.unusedSectionVars false
namespace Go.Mx

abbrev KRA : Kd := .pair ki (.pair .sl (.pair kb (.pair ki (.pair .sl .nil))))
structure RaS (h0 h : Heap) (b : Nat) (c l : Sl) (sz : Int) (cs : List Int) (lg : List Acc) (who : Int) : Prop where
  obj : Obj h b KRA (sz, (c, (true, (who, (l, ())))))
  cell : New h0 h ki c cs
  log : New h0 h KAcc l lg
  nb : h0 b = none
  b1 : ¬ blkOf c b
  b2 : ¬ blkOf l b
  ap : Apart c l
theorem RaS.le {h0 h b c l sz cs lg who} (o : RaS h0 h b c l sz cs lg who) : Go.Mx.le h0 h := o.cell.le
theorem RaS.live {h0 h b c l sz cs lg who} (o : RaS h0 h b c l sz cs lg who) {x : Nat} (hx : fpA b c l x) : h x ≠ none := by
  rcases hx with rfl | hx | hx
  · exact o.obj.live
  · exact o.cell.own.live x hx
  · exact o.log.own.live x hx
theorem RaS.fresh {h0 h b c l sz cs lg who} (o : RaS h0 h b c l sz cs lg who) {x : Nat} (hx : fpA b c l x) : h0 x = none := by
  rcases hx with rfl | hx | hx
  · exact o.nb
  · exact o.cell.new x hx
  · exact o.log.new x hx
theorem RaS.ext {h0 h h' b c l sz cs lg who} (o : RaS h0 h b c l sz cs lg who) {S : Nat → Prop} (e : Ext S h h') (n : ∀ x, fpA b c l x → ¬ S x) (f : ∀ x, S x → h0 x = none) : RaS h0 h' b c l sz cs lg who :=
  ⟨o.obj.ext e (n b (.inl rfl)), o.cell.ext e (fun x hx => n x (.inr (.inl hx))) f, o.log.ext e (fun x hx => n x (.inr (.inr hx))) f, o.nb, o.b1, o.b2, o.ap⟩
theorem RaS.more {h0 h h' b c l sz cs lg who} (o : RaS h0 h b c l sz cs lg who) (e : Go.Mx.le h h') : RaS h0 h' b c l sz cs lg who :=
  ⟨o.obj.le e, o.cell.more e, o.log.more e, o.nb, o.b1, o.b2, o.ap⟩
theorem RaS.base {h0 h1 h b c l sz cs lg who} (o : RaS h1 h b c l sz cs lg who) (e : Go.Mx.le h0 h1) : RaS h0 h b c l sz cs lg who :=
  ⟨o.obj, o.cell.base e, o.log.base e, e.none o.nb, o.b1, o.b2, o.ap⟩

section
variable {h0 h : Heap} {b : Nat} {c l : Sl} {sz : Int} {cs : List Int} {lg : List Acc} {who : Int} (o : RaS h0 h b c l sz cs lg who)
include o
theorem RaS.ld0 {K : Int → Prop} (hK : K sz) : ld ki h ((ptr b).add 0) K := o.obj.ld (kf := ki) (y := sz) ⟨[], _, rfl, rfl⟩ hK
theorem RaS.ld1 {K : Sl → Prop} (hK : K c) : ld .sl h ((ptr b).add 1) K := o.obj.ld (kf := .sl) (y := c) ⟨[_], _, rfl, rfl⟩ hK
theorem RaS.ld2 {K : Bool → Prop} (hK : K true) : ld .bool h ((ptr b).add 2) K := o.obj.ld (kf := .bool) (y := true) ⟨[_, _], _, rfl, rfl⟩ hK
theorem RaS.ld3 {K : Int → Prop} (hK : K who) : ld ki h ((ptr b).add 3) K := o.obj.ld (kf := ki) (y := who) ⟨[_, _, _], _, rfl, rfl⟩ hK
theorem RaS.ld4 {K : Sl → Prop} (hK : K l) : ld .sl h ((ptr b).add 4) K := o.obj.ld (kf := .sl) (y := l) ⟨[_, _, _, _], _, rfl, rfl⟩ hK
/-- Another actor. -/
theorem RaS.actor {w : Int} {Q : Heap → Prop} (hQ : ∀ h', RaS h0 h' b c l sz cs lg w → Step (fpA b c l) (fpA b c l) h h' → Q h') : st ki h ((ptr b).add 3) w Q := by
  refine o.obj.st (kf := ki) (v := w) (off := 3) (x' := (sz, (c, (true, (w, (l, ())))))) rfl (by decide) rfl fun h3 o3 x3 => ?_
  have f : ∀ x, x = b → h0 x = none := fun x hx => by subst hx; exact o.nb
  exact hQ h3 ⟨o3, o.cell.ext x3 (fun x p q => by subst q; exact o.b1 p) f, o.log.ext x3 (fun x p q => by subst q; exact o.b2 p) f, o.nb, o.b1, o.b2, o.ap⟩ ⟨x3.mono (fun x q => .inl q), fun x q => .inl q⟩
/-- One access more in the log. -/
theorem RaS.logged (hl : lg.length ≤ 1000000000) {a : Acc} {Q : Heap → Prop} (hQ : ∀ l' h', RaS h0 h' b c l' sz cs (lg ++ [a]) who → Step (fpA b c l) (fpA b c l') h h' → Q h') :
    ld .sl h ((ptr b).add 4) fun t => new h ([a].flatMap (Kd.cells KAcc)) fun p h1 => appendM 6 48 h1 t ⟨some p, 1, 1⟩ fun t2 h2 => st .sl h2 ((ptr b).add 4) t2 Q := by
  have hll := o.log.len
  refine o.ld4 (o.log.app3 rfl rfl (by omega) fun t h2 n2 x2 b2 => ?_)
  have o2 : Obj h2 b KRA (sz, (c, (true, (who, (l, ()))))) := o.obj.ext x2 o.b2
  refine o2.st (kf := .sl) (v := t) (off := 4) (x' := (sz, (c, (true, (who, (t, ())))))) rfl (by decide) rfl fun h3 o3 x3 => ?_
  have bt : ¬ blkOf t b := fun q => by
    rcases b2 b q with c | c
    · exact o.b2 c
    · exact o.obj.live c
  have f : ∀ x, x = b → h0 x = none := fun x hx => by subst hx; exact o.nb
  refine hQ t h3 ⟨o3, (o.cell.ext x2 (fun x p q => o.ap x p q) o.log.new).ext x3 (fun x p q => by subst q; exact o.b1 p) f, n2.ext x3 (fun x p q => by subst q; exact bt p) f, o.nb, o.b1, bt, fun x p q => ?_⟩
    ⟨(x2.mono (fun x q => .inr (.inr q))).trans (x3.mono (fun x q => .inl q)), fun x q => ?_⟩
  · rcases b2 x q with c | c
    · exact o.ap x p c
    · exact o.cell.own.live x p c
  · rcases q with q | q | q
    · exact .inl (.inl q)
    · exact .inl (.inr (.inl q))
    · rcases b2 x q with c | c
      · exact .inl (.inr (.inr c))
      · exact .inr c
/-- One cell more. -/
theorem RaS.grown (hn : cs.length ≤ 1000000000) {v : Int} {Q : Heap → Prop} (hQ : ∀ c' h', RaS h0 h' b c' l sz (cs ++ [v]) lg who → Step (fpA b c l) (fpA b c' l) h h' → Q h') :
    ld .sl h ((ptr b).add 1) fun t => new h ([v].flatMap (Kd.cells ki)) fun p h1 => appendM 1 8 h1 t ⟨some p, 1, 1⟩ fun t2 h2 => st .sl h2 ((ptr b).add 1) t2 Q := by
  have hll := o.cell.len
  refine o.ld1 (o.cell.app3 rfl rfl (by omega) fun t h2 n2 x2 b2 => ?_)
  have o2 : Obj h2 b KRA (sz, (c, (true, (who, (l, ()))))) := o.obj.ext x2 o.b1
  refine o2.st (kf := .sl) (v := t) (off := 1) (x' := (sz, (t, (true, (who, (l, ())))))) rfl (by decide) rfl fun h3 o3 x3 => ?_
  have bt : ¬ blkOf t b := fun q => by
    rcases b2 b q with c | c
    · exact o.b1 c
    · exact o.obj.live c
  have f : ∀ x, x = b → h0 x = none := fun x hx => by subst hx; exact o.nb
  refine hQ t h3 ⟨o3, n2.ext x3 (fun x p q => by subst q; exact bt p) f, (o.log.ext x2 (fun x p q => o.ap x q p) o.cell.new).ext x3 (fun x p q => by subst q; exact o.b2 p) f, o.nb, bt, o.b2, fun x p q => ?_⟩
    ⟨(x2.mono (fun x q => .inr (.inl q))).trans (x3.mono (fun x q => .inl q)), fun x q => ?_⟩
  · rcases b2 x p with c | c
    · exact o.ap x c q
    · exact o.log.own.live x q c
  · rcases q with q | q | q
    · exact .inl (.inl q)
    · rcases b2 x q with c | c
      · exact .inl (.inr (.inl c))
      · exact .inr c
    · exact .inl (.inr (.inr q))
/-- A cell is written. -/
theorem RaS.wrote {addr v : Int} (q0 : 0 ≤ addr) (q1 : addr < (cs.length : Int)) {Q : Heap → Prop} (hQ : ∀ h', RaS h0 h' b c l sz (cs.set addr.toNat v) lg who → Step (fpA b c l) (fpA b c l) h h' → Q h') :
    deref c.a fun a => st ki h (a.add (addr.toNat * 1)) v Q := by
  have hc := o.cell.len
  refine o.cell.set q0 (by omega) rfl rfl fun h1 n1 x1 => ?_
  exact hQ h1 ⟨o.obj.ext x1 o.b1, n1, o.log.ext x1 (fun x p q => o.ap x q p) o.cell.new, o.nb, o.b1, o.b2, o.ap⟩ ⟨x1.mono (fun x q => .inr (.inl q)), fun x q => .inl q⟩
end

def RRefC (c : Int → Heap → (Eff → Heap → Prop) → Prop) : Prop := ∀ {e : Int} {h : Heap} {Q : Eff → Heap → Prop}, Q (0, (false, (e, ()))) h → c e h Q
def RNoteC (c : Option Addr → Acc → Heap → (Unit → Heap → Prop) → Prop) : Prop := ∀ {h0 h : Heap} {b : Nat} {cl l : Sl} {sz : Int} {cs : List Int} {lg : List Acc} {who : Int} {a : Acc} {Q : Unit → Heap → Prop}, RaS h0 h b cl l sz cs lg who → lg.length ≤ 1000000000 →
  (∀ l' h', RaS h0 h' b cl l' sz cs (lg ++ [a]) who → Step (fpA b cl l) (fpA b cl l') h h' → Q () h') → c (some (ptr b)) a h Q
def RResC (c : Option Addr → Int → Heap → (Eff → Heap → Prop) → Prop) : Prop := ∀ {h0 h : Heap} {b : Nat} {cl l : Sl} {sz : Int} {cs : List Int} {lg : List Acc} {who : Int} {n : Int} {Q : Eff → Heap → Prop}, RaS h0 h b cl l sz cs lg who → lg.length ≤ 1000000000 → (cs.length : Int) ≤ sz → sz ≤ 1048576 →
  (n < 1 → Q (0, (false, (21, ()))) h) → (1 ≤ n → sz - (cs.length : Int) < n → Q (0, (false, (22, ()))) h) →
  (∀ c' l' h', 1 ≤ n → n ≤ sz - (cs.length : Int) → RaS h0 h' b c' l' sz (cs ++ List.replicate n.toNat 0) (lg ++ [(who, (4, ((cs.length : Int), (n, (0, (true, ()))))))]) who → Step (fpA b cl l) (fpA b c' l') h h' → Q ((cs.length : Int), (true, (0, ()))) h') → c (some (ptr b)) n h Q
def RDoC (c : Option Addr → AMv → Heap → (Eff → Heap → Prop) → Prop) : Prop := ∀ {h0 h : Heap} {b : Nat} {cl l : Sl} {sz : Int} {cs : List Int} {lg : List Acc} {who : Int} {t : AMv} {Q : Eff → Heap → Prop}, RaS h0 h b cl l sz cs lg who → lg.length ≤ 1000000000 → (cs.length : Int) ≤ sz → sz ≤ 1048576 →
  (∀ c' l' h', RaS h0 h' b c' l' sz (cact sz cs t).1 (if (cact sz cs t).2.2.2.1 = 0 then lg ++ [toldP who t (cact sz cs t).2] else lg) who → Step (fpA b cl l) (fpA b c' l') h h' → Q (cact sz cs t).2 h') → c (some (ptr b)) t h Q
theorem rref_spec : RRefC ref2_refused.M := fun h => h
theorem rnote_spec : RNoteC ref2_Arena_note.M := by
  intro h0 h b cl l sz cs lg who a Q o hl hQ
  exact o.ld2 ⟨fun _ => o.logged hl fun l' h' o' s' => hQ l' h' o' s', fun e => (by cases e)⟩
theorem rres_spec {cr cn} (iR : RRefC cr) (iN : RNoteC cn) : RResC (ref2_Arena_reserve.M cr cn) := by
  intro h0 h b cl l sz cs lg who n Q o hl hf hz h1 h2 hQ
  have hc := o.cell.len
  have hw : w64 (sz - (cl.len : Int)) = sz - (cs.length : Int) := by rw [← hc, w64_of] <;> omega
  refine ⟨fun e => iR (h1 (of_decide_eq_true e)), fun e => o.ld0 (o.ld1 ?_)⟩
  have e : ¬ n < 1 := of_decide_eq_false e
  show ((decide (w64 (sz - (cl.len : Int)) < n) = true → _) ∧ (decide (w64 (sz - (cl.len : Int)) < n) = false → _))
  rw [hw]
  refine ⟨fun f => iR (h2 (by omega) (of_decide_eq_true f)), fun f => o.ld1 ?_⟩
  have f : ¬ sz - (cs.length : Int) < n := of_decide_eq_false f
  refine Loop.up n.toNat (fun s => s.1) (fun i s k => ∃ c', RaS h0 k b c' l sz (cs ++ List.replicate i 0) lg who ∧ Step (fpA b cl l) (fpA b c' l) h k) rfl ⟨cl, by simpa using o, .refl _ _⟩ ?_
  rintro i ⟨j, u⟩ k go hi hc' ⟨c', o', s'⟩ hgo
  dsimp only at hc'; subst hc'
  have hl' : (cs ++ List.replicate i (0 : Int)).length = cs.length + i := by simp
  refine ⟨fun q => ?_, fun q => ?_⟩
  · have q : (i : Int) < n := of_decide_eq_true q
    refine o'.grown (by omega) fun c2 h2 o2 s2 => ?_
    refine hgo (by omega) _ _ (by show w64 ((i : Int) + 1) = _; rw [w64_of] <;> omega) ⟨c2, ?_, s'.trans s2⟩
    have : cs ++ List.replicate (i + 1) (0 : Int) = cs ++ List.replicate i 0 ++ [0] := by rw [List.replicate_succ', List.append_assoc]
    rw [this]
    exact o2
  · have q : ¬ (i : Int) < n := of_decide_eq_false q
    obtain rfl : i = n.toNat := by omega
    rw [← hc]
    exact o'.ld3 (iN o' hl fun l2 h2 o2 s2 => hQ c' l2 h2 (by omega) (by omega) o2 (s'.trans s2))
theorem rdo_spec {cr cs' cn} (iR : RRefC cr) (iS : RResC cs') (iN : RNoteC cn) : RDoC (ref2_Arena_Do.M cr cs' cn) := by
  intro h0 h b cl l sz cs lg who t Q o hl hf hz hQ
  obtain ⟨tw, tk, ta, tx, ty, tu⟩ := t
  change Int at tw tk ta tx ty
  have hc := o.cell.len
  have bad : ∀ f : Eff, cact sz cs (tw, (tk, (ta, (tx, (ty, tu))))) = (cs, f) → f.2.2.1 ≠ 0 → Q f h := fun f e q => by
    rw [e] at hQ
    dsimp only at hQ
    rw [if_neg q] at hQ
    exact hQ cl l h o (.refl _ _)
  have k23 : ¬ (0 ≤ tk ∧ tk ≤ 4) → ref2_Arena_Do.j5 cr cs' cn (some (ptr b)) (tw, (tk, (ta, (tx, (ty, tu))))) Q (true, ()) h := by
    intro q
    refine ⟨fun _ => iR (bad (0, (false, (23, ()))) ?_ (show (23 : Int) ≠ 0 by decide)), fun e => (by cases e)⟩
    unfold cact
    dsimp only
    rw [if_neg (show ¬ tk = 0 by omega), if_neg (show ¬ tk = 1 by omega), if_neg (show ¬ tk = 2 by omega), if_neg (show ¬ tk = 3 by omega), if_neg (show ¬ tk = 4 by omega)]; rfl
  have go : 0 ≤ tk ∧ tk ≤ 4 → ref2_Arena_Do.j5 cr cs' cn (some (ptr b)) (tw, (tk, (ta, (tx, (ty, tu))))) Q (false, ()) h := by
    intro hk
    refine ⟨fun e => (by cases e), fun _ => ⟨fun e => ?_, fun e => ?_⟩⟩
    · have e : tk = 4 := of_decide_eq_true e
      subst e
      have un : cact sz cs (tw, (4, (ta, (tx, (ty, tu))))) = if tx < 1 then (cs, ef 0 21) else if sz - (cs.length : Int) < tx then (cs, ef 0 22) else (cs ++ List.replicate tx.toNat 0, ef (cs.length : Int) 0) := by
        unfold cact; dsimp only; rw [if_neg (by decide), if_neg (by decide), if_neg (by decide), if_neg (by decide), if_pos rfl]
      refine iS o hl hf hz (fun q => bad (ef 0 21) (by rw [un, if_pos q]) (by decide)) (fun (p : 1 ≤ tx) (q : sz - (cs.length : Int) < tx) => bad (ef 0 22) (by rw [un, if_neg (by omega), if_pos q]) (by decide)) fun c' l' h2 (p : 1 ≤ tx) (q : tx ≤ sz - (cs.length : Int)) o2 s2 => ?_
      rw [un, if_neg (by omega), if_neg (by omega)] at hQ
      exact hQ _ _ h2 o2 s2
    have n4 : ¬ tk = 4 := of_decide_eq_false e
    have k20 : ¬ InC cs ta → ref2_Arena_Do.j3 cr cn (some (ptr b)) (tw, (tk, (ta, (tx, (ty, tu))))) Q ((0, (false, (0, ()))), ()) (true, ()) h := by
      intro q
      refine ⟨fun _ => iR (bad (0, (false, (20, ()))) ?_ (show (20 : Int) ≠ 0 by decide)), fun e => (by cases e)⟩
      unfold cact
      dsimp only
      by_cases q0 : tk = 0
      · rw [if_pos q0, if_neg q]; rfl
      rw [if_neg q0]
      by_cases q1 : tk = 1
      · rw [if_pos q1, if_neg q]; rfl
      rw [if_neg q1]
      by_cases q2 : tk = 2
      · rw [if_pos q2, if_neg q]
      rw [if_neg q2, if_pos (show tk = 3 by omega), if_neg q]; rfl
    have ok : InC cs ta → ref2_Arena_Do.j3 cr cn (some (ptr b)) (tw, (tk, (ta, (tx, (ty, tu))))) Q ((0, (false, (0, ()))), ()) (false, ()) h := by
      intro q
      have hb : 0 ≤ ta ∧ ta < (cl.len : Int) := ⟨q.1, by have := q.2; omega⟩
      refine ⟨fun e => (by cases e), fun _ => o.ld1 ⟨hb, o.cell.arr.at hb.1 hb.2 rfl fun v hv => o.ld3 ?_⟩⟩
      have hat := atC_of hv
      refine ⟨fun e => ?_, fun e => ?_⟩
      · have e : tk = 0 := of_decide_eq_true e
        subst e
        have : cact sz cs (tw, (0, (ta, (tx, (ty, tu))))) = (cs, ef v 0) := by unfold cact; dsimp only; rw [if_pos rfl, ← hat]; exact if_pos q
        rw [this] at hQ
        exact iN o hl fun l' h2 o2 s2 => hQ _ _ h2 o2 s2
      have n0 : ¬ tk = 0 := of_decide_eq_false e
      refine ⟨fun e => ?_, fun e => ?_⟩
      · have e : tk = 1 := of_decide_eq_true e
        subst e
        have : cact sz cs (tw, (1, (ta, (tx, (ty, tu))))) = (cs.set ta.toNat tx, ef 0 0) := by unfold cact; dsimp only; rw [if_neg (by decide), if_pos rfl]; exact if_pos q
        rw [this] at hQ
        exact o.ld1 ⟨hb, o.wrote q.1 q.2 fun h1 o1 s1 => iN o1 hl fun l' h2 o2 s2 => hQ _ _ h2 o2 (s1.trans s2)⟩
      have n1 : ¬ tk = 1 := of_decide_eq_false e
      refine ⟨fun e => ?_, fun e => ?_⟩
      · have e : tk = 2 := of_decide_eq_true e
        subst e
        have un : cact sz cs (tw, (2, (ta, (tx, (ty, tu))))) = (if v = tx then cs.set ta.toNat ty else cs, (0, (decide (v = tx), (0, ())))) := by
          unfold cact; dsimp only; rw [if_neg (by decide), if_neg (by decide), if_pos rfl, hat]; exact if_pos q
        rw [un] at hQ
        refine ⟨fun z => ?_, fun z => ?_⟩
        · have z : v = tx := of_decide_eq_true z
          rw [if_pos z] at hQ
          exact o.ld1 ⟨hb, o.wrote q.1 q.2 fun h1 o1 s1 => iN o1 hl fun l' h2 o2 s2 => hQ _ _ h2 o2 (s1.trans s2)⟩
        · have z : ¬ v = tx := of_decide_eq_false z
          rw [if_neg z] at hQ
          exact iN o hl fun l' h2 o2 s2 => hQ _ _ h2 o2 s2
      have n2 : ¬ tk = 2 := of_decide_eq_false e
      obtain rfl : tk = 3 := by omega
      have un : cact sz cs (tw, (3, (ta, (tx, (ty, tu))))) = (cs.set ta.toNat (w64 (v + tx)), ef (w64 (v + tx)) 0) := by
        unfold cact; dsimp only; rw [if_neg (by decide), if_neg (by decide), if_neg (by decide), if_pos rfl, hat]; exact if_pos q
      rw [un] at hQ
      exact o.ld1 ⟨hb, o.wrote q.1 q.2 fun h1 o1 s1 => iN o1 hl fun l' h2 o2 s2 => hQ _ _ h2 o2 (s1.trans s2)⟩
    refine ⟨fun e => k20 ?_, fun e => o.ld1 ?_⟩
    · have e : ta < 0 := of_decide_eq_true e
      unfold InC; omega
    · have e : ¬ ta < 0 := of_decide_eq_false e
      show ref2_Arena_Do.j3 cr cn _ _ Q _ (decide ((cl.len : Int) ≤ ta), ()) h
      by_cases z : (cl.len : Int) ≤ ta
      · rw [decide_eq_true z]; exact k20 (by unfold InC; omega)
      · rw [decide_eq_false z]; exact ok (by unfold InC; omega)
  refine ⟨fun e => k23 ?_, fun e => ?_⟩
  · have e : tk < 0 := of_decide_eq_true e
    omega
  · have e : ¬ tk < 0 := of_decide_eq_false e
    show ref2_Arena_Do.j5 cr cs' cn _ _ Q (decide ((4 : Int) < tk), ()) h
    by_cases z : (4 : Int) < tk
    · rw [decide_eq_true z]; exact k23 (by omega)
    · rw [decide_eq_false z]; exact go (by omega)

end Go.Mx
