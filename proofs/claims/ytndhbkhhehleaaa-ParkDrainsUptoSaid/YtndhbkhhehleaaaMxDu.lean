/-
  The law ParkDrains: the law itself.
-/
import Derived.Test.YtndhbkhhehleaaaMxDt
set_option linter.unusedVariables false
set_option linter.unusedSimpArgs false
set_option linter.unusedSectionVars false
namespace Go.Mx

theorem DrE.vals {td0 : List DTd} {first most : Int} {P : Nat} {s : PkS} (E : DrE td0 first most P s) : (vals s.g.taken).Nodup ∧ (∀ v ∈ vals s.g.taken, 0 ≤ v ∧ ∃ t : DTd, td0[v.toNat]? = some t ∧ t.1 = 0) ∧ s.g.taken.length ≤ puL td0 ∧ ((puL td0 : Int) ≤ most → s.g.taken.length = puL td0) := by
  obtain ⟨⟨N, I, _⟩, C, em⟩ := E
  obtain ⟨c, pv, V⟩ := C.va
  have pe := V.pe
  rw [handp (.inl (C.own0 I)), em, List.append_nil, List.append_nil] at pe
  have ll := pe.length_eq
  have lv : (Go.Mx.vals s.g.taken).length = s.g.taken.length := by unfold Go.Mx.vals; rw [List.length_map]
  have p0 : s.wm.pushN = 0 := by rw [C.wm]; rfl
  have t0 : (puL s.g.todos : Int) = 0 := by rw [C.td]; rfl
  refine ⟨pe.nodup_iff.2 (V.inc.imp fun {a b} q => by omega), fun v hv => ?_, ?_, fun q => ?_⟩
  · have := pe.mem_iff.1 hv
    exact ⟨(V.lt v this).1, V.kd v this⟩
  · have := V.lq; omega
  · have := V.ln q; omega
theorem drains_spec {cF cN cR cP cO cS cA} (iF : FairC9 cF) (iN : NumC cN) (iR : RoundsC cR) (iP : PlayK cP) (iO : OnceC cO) (iS : SameTC cS) (iA : AwakeC9 cA) {first most sl : Int} {td pk : Sl} {h : Heap} {todos : List DTd} {picks : List Int} (ht : Arr h KTd td todos) (hp : Arr h ki pk picks) {Q : Bool → Heap → Prop} (hQ : ∀ h', Go.Mx.le h h' → Q true h') :
    law9_ParkDrains.M cF cN cR cP cO cS cA first most sl td pk h Q := by
  refine iF ht hp (fun j => ⟨fun q => (by cases q), fun _ => ?_⟩) ⟨fun _ => ⟨fun _ => hQ h (.refl h), fun q => (by cases q)⟩, fun q => (by cases q)⟩
  obtain ⟨t1, t2, hc, s0, s7, ka⟩ := judgeP_ok.1 j
  obtain ⟨S, rfl⟩ : ∃ S : Nat, sl = (S : Int) := ⟨sl.toNat, by omega⟩
  have tl := ht.1
  have pl := hp.1
  by_cases z0 : (S : Int) = 0
  · rw [decide_eq_true z0]; exact ⟨fun _ => hQ h (.refl h), fun q => (by cases q)⟩
  rw [decide_eq_false z0]
  refine ⟨fun q => (by cases q), fun _ => iN ht (by omega) fun s1 h1 n1 => ?_⟩
  have nb := numL_nb todos
  have nf := numL_nf ka
  have lk := numL_ok ka
  obtain ⟨l, hl⟩ : ∃ l, l = numL todos := ⟨_, rfl⟩
  have ll : l.length = todos.length := by rw [hl, numL_len]
  rw [← hl] at n1 nb nf lk ⊢
  have pb := puL_le l
  have l1 := n1.len
  obtain ⟨O, hO⟩ : ∃ O : Nat, O = (16 + (S + 1)) * (l.length + 1) := ⟨_, rfl⟩
  have hO2 : O ≤ 24 * 4097 := by rw [hO]; exact Nat.mul_le_mul (by omega) (by omega)
  obtain ⟨T, hT⟩ : ∃ T : Nat, T = (puL l + 2) * (2 * (S + 1) + 12) := ⟨_, rfl⟩
  have hT2 : T ≤ 4098 * 28 := by rw [hT]; exact Nat.mul_le_mul (by omega) (by omega)
  have eP : w64 (1 + (S : Int)) = (S : Int) + 1 := by rw [w64_of] <;> omega
  have e2 : w64 (2 * w64 (1 + (S : Int))) = 2 * ((S : Int) + 1) := by rw [eP, w64_of] <;> omega
  have eO : w64 (w64 (16 + w64 (1 + (S : Int))) * w64 ((s1.len : Int) + 1)) = (O : Int) := by
    rw [eP, w64_of (x := 16 + ((S : Int) + 1)) (by omega) (by omega), w64_of (x := (s1.len : Int) + 1) (by omega) (by omega), ← l1]
    have e : (16 + ((S : Int) + 1)) * ((l.length : Int) + 1) = (O : Int) := by
      rw [hO, Int.natCast_mul]; congr 1 <;> omega
    rw [e, w64_of] <;> omega
  have eT : w64 (w64 ((puL l : Int) + 2) * w64 (w64 (2 * w64 (1 + (S : Int))) + 12)) = (T : Int) := by
    rw [e2, w64_of (x := (puL l : Int) + 2) (by omega) (by omega), w64_of (x := 2 * ((S : Int) + 1) + 12) (by omega) (by omega)]
    have e : ((puL l : Int) + 2) * (2 * ((S : Int) + 1) + 12) = (T : Int) := by
      rw [hT, Int.natCast_mul]; congr 1 <;> omega
    rw [e, w64_of] <;> omega
  have eT2 : w64 (w64 (w64 (w64 ((puL l : Int) + 2) * w64 (w64 (2 * w64 (1 + (S : Int))) + 12)) + w64 (2 * w64 (1 + (S : Int)))) + 12) = ((T + (2 * (S + 1) + 12) : Nat) : Int) := by
    rw [eT, e2, w64_of (x := (T : Int) + 2 * ((S : Int) + 1)) (by omega) (by omega), w64_of] <;> omega
  obtain ⟨U, hU⟩ : ∃ U : Nat, U = (T + (2 * (S + 1) + 12)) * S := ⟨_, rfl⟩
  have hU2 : U ≤ (4098 * 28 + 28) * 7 := by rw [hU]; exact Nat.mul_le_mul (by omega) (by omega)
  have eU : ((T + (2 * (S + 1) + 12) : Nat) : Int) * (S : Int) = (U : Int) := by rw [hU, Int.natCast_mul]
  have hTS : T * S ≤ U := by rw [hU]; exact Nat.mul_le_mul_right _ (by omega)
  refine dcase (fun _ => hQ h1 n1.le) (fun g => ?_)
  have g : ¬ (1048576 : Int) < w64 (w64 ((pk.len : Int) + w64 (w64 (16 + w64 (1 + (S : Int))) * w64 ((s1.len : Int) + 1))) + w64 (w64 (w64 (w64 (w64 ((puL l : Int) + 2) * w64 (w64 (2 * w64 (1 + (S : Int))) + 12)) + w64 (2 * w64 (1 + (S : Int)))) + 12) * (S : Int))) := g
  rw [eO, eT2, eU, w64_of (x := (pk.len : Int) + (O : Int)) (by omega) (by omega), w64_of (x := (U : Int)) (by omega) (by omega), w64_of (by omega) (by omega)] at g
  show cR pk (w64 (w64 (16 + w64 (1 + (S : Int))) * w64 ((s1.len : Int) + 1))) (S : Int) (w64 (w64 ((puL l : Int) + 2) * w64 (w64 (2 * w64 (1 + (S : Int))) + 12))) h1 _
  rw [eO, eT]
  refine iR (o := O) (sl := S) (t := T) (hp.le n1.le) (by omega) (by omega) (by omega) (by omega) (by omega) fun s2 h2 n2 => ?_
  have la : (picks ++ List.replicate O (0 : Int)).length = picks.length + O := by rw [List.length_append, List.length_replicate]
  have jj : judgeP first most (S : Int) l (picks ++ List.replicate O 0 ++ rndL S T) = 0 := judgeP_ok.2 ⟨by omega, by rw [List.length_append, la, rndL_len]; omega, hc, s0, s7, lk⟩
  have jj2 : judgeP first most (S : Int) l (picks ++ List.replicate O 0 ++ rndL S (T + (2 * (S + 1) + 12))) = 0 := judgeP_ok.2 ⟨by omega, by rw [List.length_append, la, rndL_len]; omega, hc, s0, s7, lk⟩
  obtain ⟨D1, D2, g1, g2, E1, E2, tk, slc, pkd⟩ := park_drains (P := S + 1) hc rfl (by omega) (by omega) nb nf (ws := whos (S : Int) (picks ++ List.replicate O 0)) (whos_lt s0 (by omega)) (T := T) (Nat.le_of_eq hT.symm) (by rw [whos_len, la]; omega) (by
    rw [whos_app, List.count_append, whos_zero, List.count_replicate_self]
    omega)
  rw [← whos_app] at g1 g2
  obtain ⟨v1, v2, v3, v4⟩ := E1.vals
  refine iP (n1.arr.le n2.le) n2.arr jj fun r h3 s P hP E R => ?_
  obtain rfl : P = S + 1 := by omega
  have eg : D1.g = s.g := by rw [g1]; exact E.g.symm
  rw [← eg] at R
  obtain ⟨N1, I1, hN1⟩ := E1.pk
  obtain ⟨N2, I2, hN2⟩ := E2.pk
  obtain ⟨tkS, lfS, stS, flS, sl', dn', wk', bt', lgS, u⟩ := r
  have ebt : bt' = true := by
    have e : bt' = (decide ((D1.g.act 0).busy = 0) && !(D1.g.act 0).wakes) := R.bt
    rw [e]; exact I1.between.2 E1.cal.wm
  have edn : dn' = 0 := (show dn' = DNc D1 from R.dn).trans E1.cal.dn
  have lf : New h2 h3 ki lfS [] := by
    have := R.lf
    rw [I1.left hN1, E1.em] at this
    exact this
  have Rtk : New h2 h3 KP2 tkS D1.g.taken := R.tk
  have lfl := lf.len
  have tkl := Rtk.len
  have le3 := Rtk.le
  subst ebt
  refine dno (fun q => q rfl) ⟨fun q => (by cases q), fun _ => dno (fun q => q edn) (dno (show ¬ ((lfS.len : Int) ≠ 0) from fun q => q (by have : lfS.len = 0 := lfl.symm; omega)) ?_)⟩
  refine iO (r := (tkS, lfS, stS, flS, sl', dn', wk', true, lgS, ())) Rtk.arr lf.arr (n1.arr.le (n2.le.trans le3)) (by omega) (by omega) (by decide) (by rw [List.append_nil]; exact v1) (fun v hv => v2 v (by rw [List.append_nil] at hv; exact hv)) fun h4 le4 => ⟨fun q => (by cases q), fun _ => ?_⟩
  have key : ∀ {b : Bool}, b = false → law9_ParkDrains.j4 cR cP cS cA first most (S : Int) pk Q (s1, ((puL l : Int), ())) ((tkS, (lfS, (stS, (flS, (sl', (dn', (wk', (true, (lgS, u))))))))), ((0 : Int), ())) (b, ()) h4 := fun {b} eb => by
    subst eb
    refine ⟨fun q => (by cases q), fun _ => ?_⟩
    show cR pk (w64 (w64 (16 + w64 (1 + (S : Int))) * w64 ((s1.len : Int) + 1))) (S : Int) (w64 (w64 (w64 (w64 ((puL l : Int) + 2) * w64 (w64 (2 * w64 (1 + (S : Int))) + 12)) + w64 (2 * w64 (1 + (S : Int)))) + 12)) h4 _
    rw [eO, eT2]
    have leh4 := n2.le.trans (le3.trans le4)
    refine iR (o := O) (sl := S) (t := T + (2 * (S + 1) + 12)) (hp.le (n1.le.trans leh4)) (by omega) (by omega) (by omega) (by omega) (by rw [← hU]; omega) fun s5 h5 n5 => ?_
    refine iP (n1.arr.le (leh4.trans n5.le)) n5.arr jj2 fun r2 h6 s' P2 hP2 E' R' => ?_
    obtain rfl : P2 = S + 1 := by omega
    have eg' : D2.g = s'.g := by rw [g2]; exact E'.g.symm
    rw [← eg'] at R'
    obtain ⟨tkS2, lfS2, stS2, flS2, sl2, dn2, wk2, bt2, lgS2, u2⟩ := r2
    have lf2 : New h5 h6 ki lfS2 [] := by
      have := R'.lf
      rw [I2.left hN2, E2.em] at this
      exact this
    have Rtk2 : New h5 h6 KP2 tkS2 D1.g.taken := by rw [← tk]; exact R'.tk
    have st : Arr h6 ki stS2 (statesOf (D2.g.acts.drop 1)) := R'.st.arr
    have fl : Arr h6 ki flS2 (flagsOf D2.g.m.cs (S + 1)) := by have := R'.fl.arr; rw [I2.len] at this; exact this
    have stl : (statesOf (D2.g.acts.drop 1)).length = S := by unfold statesOf; rw [List.length_map, List.length_drop, I2.len]; omega
    have fll := (I2.flag 0).1
    have x1 := st.1
    have x2 := fl.1
    have lfl2 := lf2.len
    have le6 := Rtk2.le
    have esl : sl2 = (S : Int) := (show sl2 = SLc D2 from R'.sl).trans slc
    have leh : Go.Mx.le h h6 := n1.le.trans (leh4.trans (n5.le.trans le6))
    refine dno (fun q => q rfl) (dno (show ¬ ((lfS2.len : Int) ≠ 0) from fun q => q (by have : lfS2.len = 0 := lfl2.symm; omega)) ?_)
    refine iS Rtk2.arr (Rtk.arr.le (le4.trans (n5.le.trans le6))) (by omega) ⟨fun q => (by cases q), fun _ => dno (show ¬ ((stS2.len : Int) ≠ (S : Int)) by omega) ?_⟩
    show law9_ParkDrains.j2 cA (S : Int) Q _ (decide ((flS2.len : Int) ≠ w64 (1 + (S : Int))), ()) h6
    rw [eP, decide_eq_false (show ¬ ((flS2.len : Int) ≠ (S : Int) + 1) by omega)]
    refine ⟨fun q => (by cases q), fun _ => ?_⟩
    refine iA (r := (tkS2, lfS2, stS2, flS2, sl2, dn2, wk2, bt2, lgS2, ())) (sts := statesOf (D2.g.acts.drop 1)) (fls := flagsOf D2.g.m.cs (S + 1)) st fl (by omega) (by omega) ?_
    have aw : awakeN (statesOf (D2.g.acts.drop 1)) (flagsOf D2.g.m.cs (S + 1)) (statesOf (D2.g.acts.drop 1)).length = 0 := awakeN_zero fun i a => by
      rw [stl] at a
      obtain ⟨y1, y2⟩ := pkd (i + 1) (by omega) (by omega)
      have hst : (statesOf (D2.g.acts.drop 1))[i]? = some 1 := by
        unfold statesOf
        rw [List.getElem?_map, List.getElem?_drop, Nat.add_comm 1 i, gact_get (by rw [I2.len]; omega)]
        show some (D2.g.act (i + 1)).state = _
        rw [I2.state (by omega) (by omega), y1]
      have hfl : (flagsOf D2.g.m.cs (S + 1))[i + 1]? = some 1 := by
        rw [(I2.flag (i + 1)).2 (by omega)]
        exact congrArg some y2
      rw [hst, hfl]; exact ⟨rfl, rfl⟩
    rw [aw]
    refine ⟨fun _ => ?_, fun q => (by cases q)⟩
    show Q (decide (sl2 = (S : Int))) h6
    rw [decide_eq_true esl]
    exact hQ h6 leh
  refine dcase (fun q => ?_) (fun _ => key rfl)
  have q : (puL l : Int) ≤ most := q
  refine key ?_
  exact decide_eq_false (show ¬ ((tkS.len : Int) ≠ (puL l : Int)) by have := v4 q; omega)
end Go.Mx
