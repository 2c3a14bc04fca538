/-
  The law BuffersViews.
-/
import Derived.Test.YtppehoailhjdfabMxVo
import Derived.Test.YtppehoailhjdfabMxPt
set_option linter.unusedVariables false
set_option linter.unusedSimpArgs false
set_option linter.unusedSectionVars false
namespace Go.Mx

theorem BmR.base {h0 h1 bm M S h} (R : BmR h1 bm M S h) (e : Go.Mx.le h0 h1) : BmR h0 bm M S h := by
  obtain ⟨ba, c, l, who, qs, rfl, o⟩ := R
  exact ⟨ba, c, l, who, qs, rfl, ⟨o.obj, ⟨o.ar.obj, o.ar.cell.base e, o.ar.log.base e, e.none o.ar.nb, o.ar.b1, o.ar.b2, o.ar.ap⟩, fun i => (o.q i).base e, e.none o.nb, o.d, o.dm, o.dq, o.dd⟩⟩
theorem new_pair {cR cB : Int → Int → Int → Heap → (Den KPl → Heap → Prop) → Prop} (iR : RNewC cR) (iB : BNewC cB) {size actors room : Int} {h0 h : Heap} (l0 : Go.Mx.le h0 h) {K : Den KPl → Den KPl → Heap → Prop}
    (hK : ∀ (r6 r8 : Den KPl) S h9, PairR h0 r8.1 r6.1 0 S h9 → Go.Mx.le h h9 → (∀ x, S x → h x = none) → (r8.2.1 : Int) = r6.2.1 → ((Option.isNone r8.1) == (decide ((r6.2.1 : Int) ≠ 0))) = true → K r6 r8 h9) : cR size actors room h fun r6 h7 => cB size actors room h7 fun r8 h9 => K r6 r8 h9 := by
  refine iR (fun hn br ba h7 l7 nr na o1 o2 => ?_) fun n rm ea er hs hnn hrr br S2 h7 R2 => ?_
  · have done : ∀ {c : Int} {h9 : Heap}, c ≠ 0 → Go.Mx.le h7 h9 → (if ¬ (0 ≤ size ∧ size ≤ 1048576) then (3 : Int) else 210) = c → K (some (ptr br), ((if ¬ (0 ≤ size ∧ size ≤ 1048576) then 3 else 210), ())) (none, (c, ())) h9 := by
      intro c h9 hc l9 he
      refine hK _ _ _ h9 (.bad rfl rfl (o1.le l9) (o2.le l9) (l0.none nr) (l0.none na) ((l0.trans l7).trans l9)) (l7.trans l9) (fun x q => ?_) he.symm ?_
      · rcases q with rfl | rfl
        · exact nr
        · exact na
      · show (true == decide ((if ¬ (0 ≤ size ∧ size ≤ 1048576) then (3 : Int) else 210) ≠ 0)) = true
        rw [he, decide_eq_true hc]; rfl
    refine iB (fun q => done (by decide) (Go.Mx.le.refl _) (if_pos q)) (fun q1 q2 h9 l9 => done (by decide) l9 (if_neg (fun z => z q1))) fun n rm q1 e1 q2 q3 e2 q4 q5 => absurd ⟨q1.1, q1.2, by omega, by omega, by omega, by omega⟩ hn
  · subst ea; subst er
    refine iB (fun q => absurd hs q) (fun q1 q2 => absurd ⟨by omega, by omega, by omega, by omega⟩ q2) fun n' rm' q1 e1 q2 q3 e2 q4 q5 bm S1 h9 R1 => ?_
    obtain rfl : n = n' := by omega
    obtain rfl : rm = rm' := by omega
    refine hK _ _ _ h9 (.ok rfl rfl (R1.base (l0.trans R2.le)) ((R2.more R1.le).base l0) (fun x p q => R2.live q (R1.fresh p)) (BM.new_ok q3 q4 q5 hs.1 hs.2)) (R2.le.trans R1.le) (fun x q => ?_) rfl rfl
    rcases q with q | q
    · exact R2.le.none (R1.fresh q)
    · exact R2.fresh q
theorem le_pair {h0 h h'} {mo ro : Option Addr} {L : Nat} {S : Nat → Prop} (P : PairR h0 mo ro L S h) (l : Go.Mx.le h h') : PairR h0 mo ro L S h' := P.ext (T := fun _ => False) l.toExt (fun _ _ => id) (fun _ q => q.elim)

def UntoldC (c : Int → Int → Int → Sl → Heap → (Bool → Heap → Prop) → Prop) : Prop := ∀ {size actors room : Int} {moves : Sl} {h0 h : Heap} {ms : List AMv} {Q : Bool → Heap → Prop}, Go.Mx.le h0 h → Arr h0 KMv moves ms → ms.length ≤ 1048576 → (∀ h', Go.Mx.le h0 h' → Q true h') → c size actors room moves h Q
theorem untold_spec {cR cB cM cA cL} (iR : RNewC cR) (iB : BNewC cB) (iM : MovedC cM) (iA : AskedC cA) (iL : AloneC cL) : UntoldC (law21_untold.M cR cB cM cA cL) := by
  intro size actors room moves h0 h ms Q l0 am hms hQ
  refine new_pair iR iB l0 fun r6 r8 S h9 P l9 hS he hn => ⟨fun e => absurd he (of_decide_eq_true e), fun _ => ?_⟩
  refine KpR.start (l0.trans l9) fun b F h1 K l1 fF => ?_
  have ml := am.1
  have d0 : ∀ x, S x → ¬ F x := fun x p q => P.live p (fF x q)
  refine Loop.up ms.length (fun s => s.1) (fun i _ g => ∃ S F, PairR h0 r8.1 r6.1 (65 * i) S g ∧ KpR h0 b (20 * i) F g ∧ ∀ x, S x → ¬ F x) rfl ⟨S, F, le_pair P l1, K, d0⟩ ?_
  rintro i ⟨i', u⟩ g go hi hc ⟨S1, F1, P1, K1, d1⟩ hgo
  dsimp only at hc; subst hc
  obtain ⟨br, n, q, cs, lg, hro, hn8, D⟩ := P1.rd
  refine ⟨fun e => ?_, fun e => ?_⟩
  · have e : (i : Int) < (moves.len : Int) := of_decide_eq_true e
    have hb : 0 ≤ (i : Int) ∧ (i : Int) < (moves.len : Int) := ⟨by omega, e⟩
    have him : i < ms.length := by omega
    obtain ⟨ma, hma⟩ := am.addr (by omega)
    have ag := am.le P1.le
    have hx : ms[i]? = some ms[i] := by simp [him]
    have nxt : w64 ((i : Int) + 1) = ((i + 1 : Nat) : Int) := by rw [w64_of] <;> omega
    have ldK : ∀ {K : Int → Prop}, K ((ms[i]).2.1 : Int) → (0 ≤ (i : Int) ∧ (i : Int) < (moves.len : Int)) ∧ deref moves.a fun a => ld ((.int .i64) : Kd) g ((a.add (((i : Nat) : Int).toNat * 5)).add 1) K := by
      intro K hK
      refine ⟨hb, ?_⟩
      rw [hma]
      refine deref_some ?_
      rw [Int.toNat_natCast]
      exact ag.ldPart (kp := ki) hma hx (y := ((ms[i]).2.1 : Int)) (off := 1) ⟨[_], _, rfl, rfl⟩ rfl hK
    -- a move
    have mv : law21_untold.j4 cM cA moves Q r6 r8 (ptr b) go ((i : Int), u) (true, ()) g := by
      refine ⟨fun _ => ⟨hb, ?_⟩, fun e => (by cases e)⟩
      refine ag.at (i := (i : Int)) hb.1 hb.2 rfl fun t ht => ?_
      refine ShR.start P1.le fun b2 F2 h2 R2 l2 f2 => ?_
      have K2 := K1.ext (T := fun _ => False) l2.toExt (fun _ _ => id) (fun _ q => q.elim)
      refine iM (le_pair P1 l2) R2 (fun x p q => P1.live p (f2 x q)) (by omega) (by decide) fun S' F' h3 P3 R3 d3 s3 => ?_
      have off : ∀ x, F1 x → ¬ (S1 x ∨ F2 x) := fun x p q => q.elim (fun q => d1 x q p) fun q => K1.live p (f2 x q)
      have K3 := K2.ext s3.1 off fun x q => q.elim P1.fresh R2.fresh
      have off' := s3.off off fun x p => K2.live p
      refine ⟨fun e => (by cases e), fun _ => ?_⟩
      exact hgo him _ _ nxt ⟨S', F1, P3.mono (by omega), K3.mono (by omega), fun x p q => off' x q (.inl p)⟩
    have ask : ∀ t : Bool, law21_untold.j3 cA Q r6 r8 (ptr b) go ((i : Int), u) (t, ()) g := by
      intro t
      refine ⟨fun _ => ?_, fun _ => ⟨fun e => (by cases e), fun _ => hgo him _ _ nxt ⟨S1, F1, P1.mono (by omega), K1.mono (by omega), d1⟩⟩⟩
      rw [hro]
      refine iA D hn8 K1 d1 (by omega) (by omega) fun F' h' D' K' d' s' => ⟨fun e => (by cases e), fun _ => ?_⟩
      exact hgo him _ _ nxt ⟨S1, F', by rw [hro]; exact D'.pair.mono (by omega), K'.mono (by omega), d'⟩
    have asked : law21_untold.j4 cM cA moves Q r6 r8 (ptr b) go ((i : Int), u) (false, ()) g := by
      refine ⟨fun e => (by cases e), fun _ => ?_⟩
      obtain ⟨o, e', X, sum, s, B, _⟩ := K1
      refine s.obj.ld (objV_part o sum (i := 2) (by decide)) ⟨fun _ => ?_, fun _ => ask false⟩
      exact s.obj.ld (kf := ki) (y := sum) ⟨[_, _, _, _, _, _], _, rfl, rfl⟩ (ask _)
    refine ⟨hb, ?_⟩
    refine (ldK (K := fun t34 => (((decide (t34 < 7)) = true → law21_untold.j4 cM cA moves Q r6 r8 (ptr b) go ((i : Int), u) (true, ()) g) ∧ ((decide (t34 < 7)) = false → (0 ≤ (i : Int) ∧ (i : Int) < (moves.len : Int)) ∧ deref moves.a fun a35 => ld ((.int .i64) : Kd) g ((a35.add ((((i : Nat) : Int)).toNat * 5)).add 1) fun t36 => law21_untold.j4 cM cA moves Q r6 r8 (ptr b) go ((i : Int), u) ((decide ((9 : Int) < t36)), ()) g))) ⟨fun _ => mv, fun _ => ldK ?_⟩).2
    by_cases z : (9 : Int) < ((ms[i]).2.1 : Int)
    · rw [decide_eq_true z]; exact mv
    · rw [decide_eq_false z]; exact asked
  · rw [hro]
    refine iA D hn8 K1 d1 (by omega) (by omega) fun F' h' D' K' d' s' => ⟨fun _ => ?_, fun e => (by cases e)⟩
    exact iL K' (by omega) fun h'' l'' => hQ h'' l''
theorem views_spec {cR cB cM cS cC cN cL cG cU} (iR : RNewC cR) (iB : BNewC cB) (iM : MovedC cM) (iS : StandC cS) (iC : CellsC cC) (nC : ∀ {h : Heap} {Q : Sl → Heap → Prop}, Q ⟨none, 0, 0⟩ h → cC none h Q) (iN : SameNC cN) (iL : LogC cL) (nL : ∀ {h : Heap} {Q : Sl → Heap → Prop}, Q ⟨none, 0, 0⟩ h → cL none h Q) (iG : SameKC KAcc cG) (iU : UntoldC cU)
    {size actors room : Int} {moves : Sl} {h0 : Heap} {ms : List AMv} {Q : Bool → Heap → Prop} (am : Arr h0 KMv moves ms) (hms : ms.length ≤ 1048576) (hQ : ∀ h', Go.Mx.le h0 h' → Q true h') : law21_BuffersViews.M cR cB cM cS cC cN cL cG cU size actors room moves h0 Q := by
  have ml := am.1
  refine new_pair iR iB (Go.Mx.le.refl h0) fun r6 r8 S h9 P l9 hS he hn => ⟨fun e => absurd he (of_decide_eq_true e), fun _ => ?_⟩
  show law21_BuffersViews.j5 _ _ _ _ _ _ _ _ _ _ _ _ _ _ (!((Option.isNone r8.1) == (decide ((r6.2.1 : Int) ≠ 0))), ()) h9
  rw [hn]
  refine ⟨fun e => (by cases e), fun _ => ?_⟩
  refine ShR.start l9 fun b F h1 R l1 fF => ?_
  refine Loop.up ms.length (fun s => s.1) (fun i _ g => ∃ S F, PairR h0 r8.1 r6.1 (65 * i) S g ∧ ShR h0 b i F g ∧ ∀ x, S x → ¬ F x) rfl ⟨S, F, le_pair P l1, R, fun x p q => P.live p (fF x q)⟩ ?_
  rintro i ⟨i', u⟩ g go hi hc ⟨S1, F1, P1, R1, d1⟩ hgo
  dsimp only at hc; subst hc
  refine ⟨fun e => ?_, fun e => ?_⟩
  · have e : (i : Int) < (moves.len : Int) := of_decide_eq_true e
    have hb : 0 ≤ (i : Int) ∧ (i : Int) < (moves.len : Int) := ⟨by omega, e⟩
    have him : i < ms.length := by omega
    have nxt : w64 ((i : Int) + 1) = ((i + 1 : Nat) : Int) := by rw [w64_of] <;> omega
    refine ⟨hb, (am.le P1.le).at (i := (i : Int)) hb.1 hb.2 rfl fun t ht => ?_⟩
    refine iM P1 R1 d1 (by omega) (by omega) fun S' F' h3 P3 R3 d3 s3 => ⟨fun e => (by cases e), fun _ => ?_⟩
    refine iS R3 (by omega) ⟨fun e => (by cases e), fun _ => ?_⟩
    exact hgo him _ _ nxt ⟨S', F', P3.mono (by omega), R3, d3⟩
  · obtain ⟨br, n, q, cs, lg, hro, hn8, D⟩ := P1.rd
    rw [hro]
    refine D.cells iC nC (by omega) fun s t h2 ns hl as' sS => iN ns.arr as' hl ⟨fun _ => ?_, fun e => (by cases e)⟩
    have D2 := D.ext (T := fun _ => False) ns.le.toExt (fun _ _ => id) (fun _ q => q.elim)
    refine D2.logs iL nL (by omega) fun s' t' h3 ns' hl' as'' sS' => iG ns'.arr as'' hl' ⟨fun _ => ?_, fun e => (by cases e)⟩
    exact iU ((P1.le.trans ns.le).trans ns'.le) am hms fun h' l' => hQ h' l'
end Go.Mx
