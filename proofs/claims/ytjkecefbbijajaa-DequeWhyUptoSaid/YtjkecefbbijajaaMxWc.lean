/-
  TOP and BOTTOM as they stood: the ledger's and the play's; the walks of tops and nth.
-/
import Derived.Test.YtjkecefbbijajaaMxWb
set_option linter.unusedVariables false
set_option linter.unusedSimpArgs false
set_option linter.unusedSectionVars false
namespace Go.Mx

theorem stN_px {low most thieves : Int} {todos : List DTd} {picks : List Int} (hj : judgeE low most todos thieves picks = 0) {k : Nat} (hk : k ≤ picks.length) : ∀ m, m ≤ k → plc (whos thieves picks) (stN low most todos thieves picks k).calls m = (stN low most todos thieves picks m).m.lg.length ∧ ∃ t, (stN low most todos thieves picks k).m.lg = (stN low most todos thieves picks m).m.lg ++ t := by
  refine stN_ind hj (P := fun k p => ∀ m, m ≤ k → plc (whos thieves picks) p.calls m = (stN low most todos thieves picks m).m.lg.length ∧ ∃ t, p.m.lg = (stN low most todos thieves picks m).m.lg ++ t) (fun m hm => ?_) (fun k w a h e es m hm => ?_) (fun k w q v m' x a h aq r es m hm => ?_) hk
  · have : m = 0 := by omega
    subst this
    exact ⟨rfl, [], rfl⟩
  · by_cases z : m = k + 1
    · subst z
      have zi := stN_zi hj (k := k + 1) a.lt
      rw [es] at zi ⊢
      exact ⟨zi.len.symm, [], by simp⟩
    · exact h m (by omega)
  · by_cases z : m = k + 1
    · subst z
      have zi := stN_zi hj (k := k + 1) a.lt
      rw [es] at zi ⊢
      exact ⟨zi.len.symm, [], by simp⟩
    · obtain ⟨h1, t, h2⟩ := h m (by omega)
      obtain ⟨e, l1, _⟩ := r.log aq.pi.wt
      refine ⟨?_, t ++ [e], ?_⟩
      · rw [← h1]
        exact plc_congr fun j hj => (go_cov aq.ai (aq.wl a) aq.run r (by omega)).trans (pre_cov aq.pre (by omega))
      · rw [(r.act (aq.wl a)).1, l1, aq.m, h2, List.append_assoc]

def tstep (s : Int × Int) (e : Acc) : Int × Int := (if aKind e = 2 ∧ aAddr e = 0 ∧ aOk e = true then aY e else s.1, if aKind e = 1 ∧ aAddr e = 1 then aX e else s.2)
def tsN (lg : List Acc) : Nat → Int × Int
  | 0 => (0, 0)
  | i + 1 => match lg[i]? with
    | some e => tstep (tsN lg i) e
    | none => tsN lg i
theorem tsN_succ {lg : List Acc} {i : Nat} {e : Acc} (h : lg[i]? = some e) : tsN lg (i + 1) = tstep (tsN lg i) e := by
  show (match lg[i]? with | some e => tstep (tsN lg i) e | none => tsN lg i) = _
  rw [h]
theorem tsN_app (lg t : List Acc) : ∀ i, i ≤ lg.length → tsN (lg ++ t) i = tsN lg i
  | 0, _ => rfl
  | i + 1, h => by
    have hx : lg[i]? = some lg[i] := by simp
    rw [tsN_succ hx, tsN_succ (lg := lg ++ t) (i := i) (e := lg[i]) (by rw [List.getElem?_append_left (by omega)]; exact hx), tsN_app lg t i (by omega)]
theorem FarR.tstep {s : AS} {r : Rq} {v : Int} {cs' : List Int} {e : Acc} (h : FarR r) (a : AccE s r v cs' e) (hl : 3 ≤ s.cs.length) : Go.Mx.tstep (gt s.cs 0, gt s.cs 1) e = (gt cs' 0, gt cs' 1) := by
  cases r with
  | ld a' =>
    obtain ⟨rfl, _, rfl⟩ := a
    unfold Go.Mx.tstep
    rw [if_neg (fun q => absurd (show (0 : Int) = 2 from q.1) (by decide)), if_neg (fun q => absurd (show (0 : Int) = 1 from q.1) (by decide))]
  | st a' x =>
    obtain ⟨rfl, rfl⟩ := a
    have h : 3 ≤ a' ∨ a' = 1 ∨ a' = 2 := h
    unfold Go.Mx.tstep
    rw [if_neg (fun q => absurd (show (1 : Int) = 2 from q.1) (by decide)), gt_set_ne (y := 0) (by omega) (by omega) (by omega)]
    by_cases z : a' = 1
    · subst z
      rw [if_pos ⟨rfl, rfl⟩]
      have := gt_set (cs := s.cs) (x := 1) (v := x) (y := 1) (by decide) (by omega) (by decide)
      rw [if_pos rfl] at this
      rw [this]; rfl
    · rw [if_neg (fun q => z q.2), gt_set_ne (by omega) (by omega) (fun q => z q.symm)]
  | cas a' x y => exact h.elim
  | rs n =>
    obtain ⟨rfl, _, rfl⟩ := a
    unfold Go.Mx.tstep
    rw [if_neg (fun q => absurd (show (4 : Int) = 2 from q.1) (by decide)), if_neg (fun q => absurd (show (4 : Int) = 1 from q.1) (by decide)), gt_app, gt_app]
theorem stN_ti {low most thieves : Int} {todos : List DTd} {picks : List Int} (hj : judgeE low most todos thieves picks = 0) {k : Nat} (hk : k ≤ picks.length) : tsN (stN low most todos thieves picks k).m.lg (stN low most todos thieves picks k).m.lg.length = (gt (stN low most todos thieves picks k).m.cs 0, gt (stN low most todos thieves picks k).m.cs 1) := by
  obtain ⟨j1, j2, j3, j4, j5, j6⟩ := judge_ok hj
  refine stN_ind hj (P := fun k p => tsN p.m.lg p.m.lg.length = (gt p.m.cs 0, gt p.m.cs 1)) ?_ (fun k w a h _ _ => h) (fun k w q v m' x a h aq r es => ?_) hk
  · have pi := ps0_pi (todos := todos) (thieves := thieves) j3 j4
    have p0 : ((ps0 low most todos thieves).act 0).1.pc = 0 := by
      have e : (ps0 low most todos thieves).act 0 = (DOp.zero, (-1 : Int)) := by
        show (List.replicate (1 + thieves).toNat (DOp.zero, (-1 : Int)))[0]?.getD (DOp.zero, -1) = _
        rw [List.getElem?_replicate]
        split <;> rfl
      rw [e]; rfl
    have h1 := pi.dg.t0
    have h2 := pi.dg.bn
    have h3 := pi.dg.tb
    rw [Bl_up (lowp (.inl p0))] at h2 h3
    show ((0 : Int), (0 : Int)) = _
    rw [show gt (ps0 low most todos thieves).m.cs 0 = 0 by omega, show gt (ps0 low most todos thieves).m.cs 1 = 0 by omega]
  · have hw := aq.wl a
    have pi := aq.pi
    obtain ⟨e, l1, l2, l3⟩ := r.log pi.wt
    have pc := aq.pc
    have base := (pi.mach w hw pc).1
    rw [(r.act hw).1, l1, aq.m]
    rw [← aq.m] at h
    have sn : tsN (q.m.lg ++ [e]) (q.m.lg ++ [e]).length = tstep (tsN q.m.lg q.m.lg.length) e := by
      rw [show (q.m.lg ++ [e]).length = q.m.lg.length + 1 by simp, tsN_succ (e := e) (by rw [List.getElem?_append_right (Nat.le_refl _), Nat.sub_self]; rfl), tsN_app q.m.lg [e] _ (Nat.le_refl _)]
    rw [← aq.m, sn, h]
    have hl3 : 3 ≤ q.m.cs.length := by have := pi.dg.len; have := pi.dg.a3; have := pi.dg.c1; have := newer_nn pi.os pi.dg.c1 pi.dg.cm; omega
    by_cases p2 : (q.act w).1.pc = 2
    · rw [req2 base p2] at l3
      obtain ⟨rfl, _, hcs⟩ := l3
      unfold tstep
      rw [if_neg (fun q => absurd (show (0 : Int) = 2 from q.1) (by decide)), if_neg (fun q => absurd (show (0 : Int) = 1 from q.1) (by decide)), show m'.cs = q.m.cs from hcs]
    · by_cases p13 : (q.act w).1.pc = 13
      · rw [req13 base p13] at l3
        have ht : 0 ≤ (q.act w).1.t ∧ (q.act w).1.t ≤ 1000000000 := by
          have hT : gt q.m.cs 0 ≤ 1000000000 := by have := pi.dg.tb; have := pi.dg.bn; have := pi.dg.nn; omega
          by_cases z : w = 0
          · subst z
            cases pi.os with
            | po13 k' p i wn bb t0 t => omega
            | idle p => omega
            | pu1 k' p | pu2 k' p | pu3 k' p | pu4 k' p | pu5 k' p | pu6 k' p | pu7 k' p | pu8 k' p | pu9 k' p | pu10 k' p | pu11 k' p => omega
            | po1 k' p | po3 k' p | po11 k' p | po2 k' p | po4 k' p | po12 k' p | pe k' p | pf k' p => omega
          · cases pi.th w (by omega) hw with
            | st13 _ p t0 t => omega
            | idle p => omega
            | st2 _ p | st1 _ p | st3 _ p | st4 _ p | st12 _ p => omega
            | lk2 k' | lk1 k' => have := pi.kind w (by omega) hw pc; omega
        have ew : w64 ((q.act w).1.t + 1) = (q.act w).1.t + 1 := by rw [w64_of] <;> omega
        rw [ew] at l3
        obtain ⟨he, _, hcs⟩ := l3
        have hcs : m'.cs = if gt q.m.cs 0 = (q.act w).1.t then q.m.cs.set 0 ((q.act w).1.t + 1) else q.m.cs := hcs
        unfold tstep
        have k1 : aKind e = 2 ∧ aAddr e = 0 ∧ aY e = (q.act w).1.t + 1 ∧ aOk e = decide (gt q.m.cs 0 = (q.act w).1.t) := by rw [he]; exact ⟨rfl, rfl, rfl, rfl⟩
        rw [if_neg (c := aKind e = 1 ∧ aAddr e = 1) (fun q => by omega)]
        by_cases z : gt q.m.cs 0 = (q.act w).1.t
        · rw [if_pos z] at hcs
          rw [decide_eq_true z] at k1
          rw [if_pos ⟨k1.1, k1.2.1, k1.2.2.2⟩, k1.2.2.1, hcs]
          have g0 := gt_set (cs := q.m.cs) (x := 0) (v := (q.act w).1.t + 1) (y := 0) (by decide) (by omega) (by decide)
          rw [if_pos rfl] at g0
          have g1 := gt_set_ne (cs := q.m.cs) (x := 0) (v := (q.act w).1.t + 1) (y := 1) (by decide) (by decide) (by decide)
          exact Prod.ext g0.symm g1.symm
        · rw [if_neg z] at hcs
          rw [decide_eq_false z] at k1
          rw [if_neg (fun q => absurd (k1.2.2.2.symm.trans q.2.2) (by decide)), hcs]
      · have hf : FarR (q.act w).1.req := by
          by_cases z : w = 0
          · subst z; exact pi.os.farR pi.dg base pc p2 p13
          · exact (pi.th w (by omega) hw).farR pi.dg (newer_nn pi.os pi.dg.c1 pi.dg.cm) base (pi.kind w (by omega) hw pc) pc p2 p13
        exact hf.tstep (s := { q.m with who := (w : Int) }) l3 hl3

theorem tops_spec {lgS : Sl} {h : Heap} {L : List Acc} (hl : Arr h KAcc lgS L) (hn : L.length ≤ 1048576) {Q : (Sl × (Sl × Unit)) → Heap → Prop} (hQ : ∀ s1 s2 h', New h h' ki s1 (rangeL L.length fun j => (tsN L j).1) → New h h' ki s2 (rangeL L.length fun j => (tsN L j).2) → Q (s1, (s2, ())) h') : law3_tops.M lgS h Q := by
  have hll := hl.1
  refine Loop.up L.length (fun s => s.2.2.2.2.1) (fun i s k => New h k ki s.1 (rangeL i fun j => (tsN L j).1) ∧ New h k ki s.2.1 (rangeL i fun j => (tsN L j).2) ∧ s.2.2.1 = (tsN L i).1 ∧ s.2.2.2.1 = (tsN L i).2 ∧ ∀ b, blkOf s.1 b → ¬ blkOf s.2.1 b) rfl ⟨New.nil h ki, New.nil h ki, rfl, rfl, fun b q => by obtain ⟨a, e, _⟩ := q; cases e⟩ ?_
  rintro i ⟨s1, s2, (tt : Int), (bb : Int), i', u⟩ k go hi hc ⟨n1, n2, e1, e2, ap⟩ hgo
  dsimp only at hc n1 n2 e1 e2 ap; subst hc
  have l1 := n1.len
  have l2 := n2.len
  rw [rangeL_len] at l1 l2
  refine dcase (fun g => ?_) (fun g => ?_)
  · have g : (i : Int) < (lgS.len : Int) := g
    have hil : i < L.length := by omega
    have hx : L[i]? = some L[i] := by simp
    obtain ⟨a, ha⟩ := hl.addr (by omega)
    refine n1.app3 (x := tt) rfl rfl (by omega) fun t1 k1 m1 x1 y1 => ?_
    have n2' : New h k1 ki s2 (rangeL i fun j => (tsN L j).2) := n2.ext x1 (fun b q r => ap b r q) n1.new
    have ap1 : ∀ b, blkOf t1 b → ¬ blkOf s2 b := fun b q r => by
      rcases y1 b q with z | z
      · exact ap b z r
      · exact n2.own.live b r z
    refine n2'.app3 (x := bb) rfl rfl (by omega) fun t2 k2 m2 x2 y2 => ?_
    have m1' : New h k2 ki t1 _ := m1.ext x2 ap1 n2'.new
    have ap2 : ∀ b, blkOf t1 b → ¬ blkOf t2 b := fun b q r => by
      rcases y2 b r with z | z
      · exact ap1 b q z
      · exact m1.own.live b q z
    refine ⟨⟨Int.natCast_nonneg i, g⟩, ?_⟩
    rw [ha]
    simp only [deref]
    rw [Int.toNat_natCast]
    refine (hl.le m2.le).ldAt (k := KAcc) ha hx rfl ?_
    have hst := tsN_succ hx
    generalize L[i] = e at *
    rw [e1] at m1'
    rw [e2] at m2
    rw [← rangeL_succ i fun j => (tsN L j).1] at m1'
    rw [← rangeL_succ i fun j => (tsN L j).2] at m2
    have nxt : ∀ t' b' : Int, t' = (tsN L (i + 1)).1 → b' = (tsN L (i + 1)).2 → law3_tops.j1 go (s1, (s2, (tt, (bb, ((i : Int), u))))) (t1, (t2, (t', (b', ())))) k2 := fun t' b' f1 f2 => hgo hil _ _ (w64_nat (n := L.length) hil (by omega)) ⟨m1', m2, f1, f2, ap2⟩
    have j3 : ∀ t' : Int, t' = (tsN L (i + 1)).1 → law3_tops.j3 go (s1, (s2, (tt, (bb, ((i : Int), u))))) t1 t2 e (t', ()) k2 := fun t' f1 => by
      have no : ¬ (aKind e = 1 ∧ aAddr e = 1) → law3_tops.j2 go (s1, (s2, (tt, (bb, ((i : Int), u))))) t1 t2 e (t', ()) (false, ()) k2 := fun q => ⟨fun z => (by cases z), fun _ => nxt _ _ f1 (by rw [hst]; unfold tstep; rw [if_neg q]; exact e2)⟩
      refine dcase (fun z => ?_) (fun z => no (fun q => z q.1))
      show law3_tops.j2 go (s1, (s2, (tt, (bb, ((i : Int), u))))) t1 t2 e (t', ()) (decide (aAddr e = 1), ()) k2
      by_cases y : aAddr e = 1
      · rw [decide_eq_true y]
        exact ⟨fun _ => nxt _ _ f1 (by rw [hst]; exact (if_pos (c := aKind e = 1 ∧ aAddr e = 1) ⟨z, y⟩).symm), fun z => (by cases z)⟩
      · rw [decide_eq_false y]; exact no (fun q => y q.2)
    have no : ¬ (aKind e = 2 ∧ aAddr e = 0 ∧ aOk e = true) → law3_tops.j4 go (s1, (s2, (tt, (bb, ((i : Int), u))))) t1 t2 e (false, ()) k2 := fun q => ⟨fun z => (by cases z), fun _ => j3 _ (by rw [hst]; unfold tstep; rw [if_neg q]; exact e1)⟩
    refine dcase (fun z => dcase (fun y => ?_) (fun y => no (fun q => y q.2.1))) (fun z => no (fun q => z q.1))
    show law3_tops.j4 go (s1, (s2, (tt, (bb, ((i : Int), u))))) t1 t2 e (aOk e, ()) k2
    cases ok : aOk e with
    | true => exact ⟨fun _ => j3 _ (by rw [hst]; unfold tstep; rw [if_pos ⟨z, y, ok⟩]), fun z => (by cases z)⟩
    | false => exact no (fun q => by rw [ok] at q; exact absurd q.2.2 (by decide))
  · have g : ¬ (i : Int) < (lgS.len : Int) := g
    obtain rfl : i = L.length := by omega
    exact hQ s1 s2 k n1 n2
section
variable {c : DCl} {n w b e : Nat} {plS pkS : Sl} {thieves : Int} {h : Heap} {picks : List Int} {pl : List Int} (hp : Arr h ki pkS picks) (hpl : Arr h ki plS pl) (t0 : 0 ≤ thieves) (t3 : thieves ≤ 3) (hn : picks.length ≤ 1048576) (hpn : pl.length = picks.length) (hw : dWho c = (w : Int)) (hb : dBeg c = (b : Int)) (he : dEnd c = (e : Int)) (hel : e < picks.length) (hbe : b ≤ e) (hnn : n ≤ 100)
  {c1 : Int → Int → Heap → (Int → Heap → Prop) → Prop} (i1 : ∀ {x n h Q}, law3_mod.M x n h Q → c1 x n h Q) {Q : Int → Heap → Prop}
include hp hpl t0 t3 hn hpn hw hb he hel hbe hnn i1
theorem nth_spec (hs : ∀ m, NP (whos thieves picks) w b n m → m ≤ e → ∀ x, pl[m]? = some x → Q x h) (hN : (∀ m, NP (whos thieves picks) w b n m → ¬ m ≤ e) → Q (-1) h) : law3_nth.M c1 c (n : Int) plS thieves pkS h Q := by
  have hpl1 := hp.1
  have hpl2 := hpl.1
  have wt : w64 (1 + thieves) = 1 + thieves := by rw [w64_of] <;> omega
  have hWl : (whos thieves picks).length = picks.length := List.length_map ..
  have pkb : ∀ k, pk (whos thieves picks) w k ≤ 1048576 := fun k => by
    unfold pk
    have := List.length_filter_le (fun x => decide (x = w)) ((whos thieves picks).take k)
    have h2 := List.length_take_le' k (whos thieves picks)
    omega
  refine Loop.up (e + 1 - b) (fun s => s.2.1 - (b : Int)) (fun i s k => k = h ∧ s.1 = (n : Int) + (pk (whos thieves picks) w b : Int) - (pk (whos thieves picks) w (b + i) : Int) ∧ 0 ≤ s.1) (by show dBeg c - (b : Int) = 0; omega) ⟨rfl, by rw [Nat.add_zero]; show (n : Int) = _; omega, Int.natCast_nonneg _⟩ ?_
  rintro i ⟨(n' : Int), (at' : Int), u⟩ k go hi hc ⟨rfl, hn', h0⟩ hgo
  have hc : at' - (b : Int) = (i : Int) := hc
  have hn' : n' = (n : Int) + (pk (whos thieves picks) w b : Int) - (pk (whos thieves picks) w (b + i) : Int) := hn'
  have h0 : 0 ≤ n' := h0
  obtain rfl : at' = ((b + i : Nat) : Int) := by omega
  have stop : ¬ b + i ≤ e → law3_nth.j4 c1 c plS thieves pkS Q go (n', (((b + i : Nat) : Int), u)) (false, ()) k := fun z => ⟨fun z => (by cases z), fun _ => hN fun m hm hme => by
    obtain ⟨m1, m2, m3⟩ := hm
    have mm := pk_mono (W := whos thieves picks) (w := w) (a := m + 1) (b := b + i) (by omega) (by omega)
    have := pk_succ (w := w) m1
    rw [if_pos rfl] at this
    omega⟩
  have cont : b + i ≤ e → law3_nth.j4 c1 c plS thieves pkS Q go (n', (((b + i : Nat) : Int), u)) (true, ()) k := fun z => ⟨fun _ => ?_, fun z => (by cases z)⟩
  · refine dcase (fun z => ?_) (fun z => stop (by have z : ¬ ((b + i : Nat) : Int) < (pkS.len : Int) := z; omega))
    refine dcase (fun y => cont (by have y : ((b + i : Nat) : Int) ≤ dEnd c := y; omega)) (fun y => ?_)
    have y : ¬ ((b + i : Nat) : Int) ≤ dEnd c := y
    show law3_nth.j4 c1 c plS thieves pkS Q go (n', (((b + i : Nat) : Int), u)) (decide (dEnd c < 0), ()) k
    rw [decide_eq_false (by omega)]
    exact stop (by omega)
  · refine ⟨⟨Int.natCast_nonneg _, show ((b + i : Nat) : Int) < (pkS.len : Int) by omega⟩, hp.at (i := ((b + i : Nat) : Int)) (Int.natCast_nonneg _) (by omega) rfl fun x hx => ?_⟩
    rw [Int.toNat_natCast] at hx
    rw [wt]
    have hr := mod_range (x := x) (n := 1 + thieves) (by omega)
    have hWx := whos_get (thieves := thieves) hx
    have ps := pk_succ (w := w) hWx
    have hb0 := pkb (b + i)
    have hb1 := pkb b
    have nxt : ∀ n2 : Int, n2 = (n : Int) + (pk (whos thieves picks) w b : Int) - (pk (whos thieves picks) w (b + (i + 1)) : Int) → 0 ≤ n2 → law3_nth.j2 go (n', (((b + i : Nat) : Int), u)) (n2, ()) k := fun n2 f1 f2 => by
      refine hgo (by omega) _ _ ?_ ⟨rfl, f1, f2⟩
      show w64 (((b + i : Nat) : Int) + 1) - (b : Int) = _
      rw [w64_of] <;> omega
    refine i1 (lmod_spec (by omega) (by omega) ?_)
    refine dcase (fun f => ?_) (fun f => ?_)
    · have f : x % (1 + thieves) ≠ dWho c := f
      rw [if_neg (fun q => f (by rw [hw, ← q, Int.toNat_of_nonneg hr.1]))] at ps
      exact nxt n' (by rw [← Nat.add_assoc, ps]; omega) h0
    · have f : x % (1 + thieves) = dWho c := Decidable.not_not.1 f
      have fw : (x % (1 + thieves)).toNat = w := by rw [f, hw, Int.toNat_natCast]
      rw [if_pos fw] at ps
      refine dcase (fun z => ?_) (fun z => ?_)
      · have z : n' = 0 := z
        refine ⟨⟨Int.natCast_nonneg _, show ((b + i : Nat) : Int) < (plS.len : Int) by omega⟩, hpl.at (i := ((b + i : Nat) : Int)) (Int.natCast_nonneg _) (by omega) rfl fun y hy => ?_⟩
        rw [Int.toNat_natCast] at hy
        exact hs (b + i) ⟨by rw [hWx, fw], by omega, by omega⟩ (by omega) y hy
      · have z : ¬ n' = 0 := z
        refine nxt _ ?_ ?_
        · show w64 (n' - 1) = _
          rw [← Nat.add_assoc, ps, w64_of] <;> omega
        · show 0 ≤ w64 (n' - 1)
          rw [w64_of] <;> omega
end
end Go.Mx
