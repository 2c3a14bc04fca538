/-
  deque.Play: the walk.
-/
import Derived.Test.YtjkecefbbijajaaMxQk
set_option linter.unusedVariables false
set_option linter.unusedSimpArgs false
set_option linter.unusedSectionVars false
namespace Go.Mx

theorem PI.restOk {most : Int} {p : PS} {N : Int} (h : PI most p N) (hN : N ≤ 900000000) : RestOk p.m.cs := by
  refine h.dg.rest (newer_nn h.os h.dg.c1 h.dg.cm) ?_ hN
  by_cases l : lowered (p.act 0).1
  · rw [Bl_lo l]; have := (h.os.low l).1; omega
  · rw [Bl_up l]; omega
def playOf (low most : Int) (todos : List DTd) (thieves : Int) (picks : List Int) : PS := (ps0 low most todos thieves).run most 0 (whos thieves picks)
theorem whos_mem {thieves : Int} {picks : List Int} (ht : 0 ≤ thieves) {w : Nat} (h : w ∈ whos thieves picks) : w < (1 + thieves).toNat := by
  obtain ⟨x, _, rfl⟩ := List.mem_map.1 h
  have := mod_range (x := x) (n := 1 + thieves) (by omega)
  omega
theorem whos_take (thieves : Int) (picks : List Int) (i : Nat) : whos thieves (picks.take i) = (whos thieves picks).take i := List.map_take ..

/-- What Play answers: the lists are new, and share nothing. -/
structure PlayR (h h' : Heap) (p : PS) (ca re lg : Sl) : Prop where
  calls : New h h' KCl ca p.calls
  rest : New h h' ki re (ctn p.m.cs)
  log : New h h' KAcc lg p.m.lg
  a1 : Apart ca re
  a2 : Apart ca lg
  a3 : Apart re lg

theorem dplay_spec {low most thieves : Int} {td pk : Sl} {h : Heap} {todos : List DTd} {picks : List Int} (ht : Arr h KTd td todos) (hp : Arr h ki pk picks)
    {c1 : Int → Int → Sl → Int → Sl → Heap → (Int → Heap → Prop) → Prop} {c2 : Int → Int → Heap → (Int → Heap → Prop) → Prop} {c3 : Int → Heap → ((Option Addr × (Int × Unit)) → Heap → Prop) → Prop} {c4 : Value → Int → Int → Heap → ((Den KP2 × (Int × Unit)) → Heap → Prop) → Prop} {c5 : Option Addr → Bool → Heap → (Unit → Heap → Prop) → Prop}
    {c6 : Int → Int → Heap → (Int → Heap → Prop) → Prop} {c7 : Option Addr → Int → Int → Heap → (Unit → Heap → Prop) → Prop} {c8 : Option Addr → Heap → (Sl → Heap → Prop) → Prop} {c9 : Option Addr → Heap → (Sl → Heap → Prop) → Prop}
    (i1 : ∀ {a b s t u h Q} {ts : List DTd} {ps : List Int}, Arr h KTd s ts → Arr h ki u ps → Q (judgeE a b ts t ps) h → c1 a b s t u h Q)
    (i2 : ∀ {a b h Q}, (CapE a b → Q (cellsOf a b) h) → (¬ CapE a b → Q 0 h) → c2 a b h Q)
    (i3 : ∀ {a h Q}, (¬ (0 ≤ a ∧ a ≤ 1048576) → Q (none, (3, ())) h) → (0 ≤ a ∧ a ≤ 1048576 → ∀ b h', Ar h h' b ⟨none, 0, 0⟩ ⟨none, 0, 0⟩ a [] [] 0 false → Q (some (ptr b), (0, ())) h') → c3 a h Q)
    (i4 : ∀ {h0 h : Heap} {b : Nat} {c l : Sl} {sz low most : Int} {Q}, Ar h0 h b c l sz [] [] 0 false → sz ≤ 1048576 → CapE low most → 4 + low ≤ sz → (∀ c' l' h', Ar h0 h' b c' l' sz (laid low []) [] 0 false → Step (fpA b c l) (fpA b c' l') h h' → Q ((0, (most, ())), (0, ())) h') → c4 (.iface 54 (.pointer (some (ptr b)))) low most h Q)
    (i5 : ∀ {h0 h : Heap} {b : Nat} {c l : Sl} {sz : Int} {cs : List Int} {lg : List Acc} {who : Int} {wt on : Bool} {Q : Unit → Heap → Prop}, Ar h0 h b c l sz cs lg who wt → (∀ h', Ar h0 h' b c l sz cs lg who on → Step (fpA b c l) (fpA b c l) h h' → Q () h') → c5 (some (ptr b)) on h Q)
    (i6 : ∀ {x n h Q}, 0 < n → n ≤ 1000000000 → Q (x % n) h → c6 x n h Q)
    (i7 : ∀ {h0 h : Heap} {g b : Nat} {most : Int} {td ac ca c l : Sl} {p : PS} {N who : Nat} {n : Int} {Q : Unit → Heap → Prop}, Gm h0 h g b most td ac ca c l p → PsOk p N → N ≤ 1000000 * 4 → who < p.acts.length → (∀ td' ca' c' l' h', Gm h0 h' g b most td' ac ca' c' l' (p.step most n who) → Step (fpG g b ac ca c l) (fpG g b ac ca' c' l') h h' → Q () h') → c7 (some (ptr g)) n (who : Int) h Q)
    (i8 : ∀ {h0 h : Heap} {g b : Nat} {most : Int} {td ac ca c l : Sl} {p : PS} {Q : Sl → Heap → Prop}, Gm h0 h g b most td ac ca c l p → RestOk p.m.cs → (∀ s h', New h h' ki s (ctn p.m.cs) → Q s h') → c8 (some (ptr g)) h Q)
    (i9 : ∀ {h0 h : Heap} {b : Nat} {c l : Sl} {sz : Int} {cs : List Int} {lg : List Acc} {who : Int} {wt : Bool} {Q : Sl → Heap → Prop}, Ar h0 h b c l sz cs lg who wt → lg.length ≤ 1000000000 → (∀ s h', New h h' KAcc s lg → Q s h') → c9 (some (ptr b)) h Q)
    {Q : (Den kapiDequeRun × (Int × Unit)) → Heap → Prop} (hE : judgeE low most todos thieves picks ≠ 0 → Q ((Sl.none, (Sl.none, (Sl.none, ()))), (judgeE low most todos thieves picks, ())) h)
    (hQ : judgeE low most todos thieves picks = 0 → ∀ ca re lg h', PlayR h h' (playOf low most todos thieves picks) ca re lg → Q ((ca, (re, (lg, ()))), (0, ())) h') : deque_Play.M c1 c2 c3 c4 c5 c6 c7 c8 c9 low most td thieves pk h Q := by
  refine i1 ht hp (dcase (fun e => hE e) (fun e => ?_))
  have e : judgeE low most todos thieves picks = 0 := Decidable.not_not.1 e
  have hQ := hQ e
  have hj : ¬ (4096 < todos.length ∨ 1048576 < picks.length) ∧ CapE low most ∧ ¬ (thieves < 0 ∨ 3 < thieves) := by
    unfold judgeE at e
    by_cases a : 4096 < todos.length ∨ 1048576 < picks.length
    · rw [if_pos a] at e; cases e
    · by_cases b : CapE low most
      · by_cases c : thieves < 0 ∨ 3 < thieves
        · rw [if_neg a, if_neg (fun n => n b), if_pos c] at e; cases e
        · exact ⟨a, b, c⟩
      · rw [if_neg a, if_pos b] at e; cases e
  obtain ⟨j1, j2, j3⟩ := hj
  have hb := cellsOf_bound j2
  have hpl := hp.1
  have wt : w64 (1 + thieves) = 1 + thieves := by rw [w64_of] <;> omega
  refine i2 (fun _ => ?_) (fun q => absurd j2 q)
  refine i3 (fun q => absurd ⟨by have := j2.1; omega, hb.2⟩ q) (fun _ b h1 o1 => ⟨fun q => absurd rfl (of_decide_eq_true q), fun _ => ?_⟩)
  refine i4 o1 hb.2 j2 hb.1 fun c2 l2 h2 o2 s2 => ⟨fun q => absurd rfl (of_decide_eq_true q), fun _ => ?_⟩
  refine i5 (on := true) o2 fun h3 o3 s3 => ?_
  rw [wt]
  refine make_new (by omega) (Int.le_refl _) (by omega) (by omega) fun ac h4 n4 l4 c4' a4 => ?_
  have lac : ∀ x, blkOf ac x → h3 x = none := n4.new
  have o4 := o3.more n4.le
  have sep : ∀ x, blkOf ac x → ¬ fpA b c2 l2 x := fun x q r => o3.live r (lac x q)
  have nac : New h h4 KAc ac (List.replicate (1 + thieves).toNat KAc.zero) := n4.base o3.le
  have obj := @Obj.new h4 KGm (some (ptr b), ((0, (most, ())), (td, (ac, (⟨none, 0, 0⟩, ())))))
  refine obj fun g h5 hg og lg => ?_
  have o5 := o4.more lg
  have nac5 : New h h5 KAc ac (List.replicate (1 + thieves).toNat KAc.zero) := ⟨nac.own.le lg, nac.len, nac.le.trans lg, nac.new⟩
  have hrep : ∀ i : Nat, (List.replicate i (DOp.zero, (-1 : Int))).map actDen = List.replicate i (actDen (DOp.zero, -1)) := fun i => List.map_replicate
  have hz : actDen (DOp.zero, 0) = KAc.zero := rfl
  have nilc : ∀ {k : Heap}, le h k → New h k KCl ⟨none, 0, 0⟩ ([] : List DCl) := fun {k} l => ⟨Own.nil _ _, rfl, l, fun x hx => (by obtain ⟨a, e, _⟩ := hx; cases e)⟩
  have ngz : h g = none := (o4.le).none hg
  -- the actors stand without a call
  refine og.ld (kf := .sl) (off := 4) (y := ac) ⟨[.pointer (some (ptr b)), .int .i64 0, .int .i64 most, td.val], [Sl.val ⟨none, 0, 0⟩], rfl, rfl⟩ ?_
  have hacl := nac5.len
  rw [List.length_replicate] at hacl
  have g0 : ∀ k {acts : List (DOp × Int)}, New h k KAc ac (acts.map actDen) → Ext (blkOf ac) h5 k → Gm h k g b most td ac ⟨none, 0, 0⟩ c2 l2 { m := { sz := cellsOf low most, cs := laid low [], lg := [], who := 0, wt := true }, todos := todos, acts := acts, calls := [] } := fun k acts n x => by
    have ng' : ¬ fpA b c2 l2 g := fun q => o4.live q hg
    have na' : ¬ blkOf ac g := fun q => n4.own.live g q hg
    exact ⟨og.ext x na', o5.ext x (fun y q r => sep y r q) nac5.new, ht, n, nilc n.le, ngz, ng', na', (fun q => by obtain ⟨a, e, _⟩ := q; cases e), sep, (fun y q => by obtain ⟨a, e, _⟩ := q; cases e), fun y _ q => by obtain ⟨a, e, _⟩ := q; cases e⟩
  obtain ⟨aa, haa⟩ := nac5.own.addr (by omega)
  refine Loop.up (1 + thieves).toNat (fun s => s.1) (fun i s k => New h k KAc ac ((List.replicate i (DOp.zero, (-1 : Int)) ++ List.replicate ((1 + thieves).toNat - i) (DOp.zero, (0 : Int))).map actDen) ∧ Ext (blkOf ac) h5 k) rfl ⟨?_, .refl _ _⟩ ?_
  · rw [List.replicate_zero, List.nil_append, Nat.sub_zero, List.map_replicate]; exact nac5
  rintro i ⟨i', u⟩ k go hi hc ⟨ni, xi⟩ hgo
  dsimp only at hc; subst hc
  have gk := g0 k ni xi
  refine dcase (fun f => ?_) (fun f => ?_)
  · have f : (i : Int) < (ac.len : Int) := f
    refine gk.lda ⟨⟨by omega, f⟩, ?_⟩
    rw [haa]
    simp only [deref]
    rw [Int.toNat_natCast]
    have hil : i < (1 + thieves).toNat := by omega
    have hel : ((List.replicate i (DOp.zero, (-1 : Int)) ++ List.replicate ((1 + thieves).toNat - i) (DOp.zero, (0 : Int))).map actDen)[i]? = some (actDen (DOp.zero, 0)) := by
      rw [List.getElem?_map, List.getElem?_append_right (by simp), List.length_replicate, Nat.sub_self, List.getElem?_replicate, if_pos (by omega)]; rfl
    refine ni.stPart (kp := ki) (k := KAc) (y' := actDen (DOp.zero, -1)) (off := 16) haa hel rfl (by decide) rfl rfl fun k2 n2 x2 => ?_
    refine hgo hil _ _ (by show w64 ((i : Int) + 1) = _; rw [w64_of] <;> omega) ⟨?_, xi.trans x2⟩
    rw [← map_set] at n2
    have : (List.replicate i (DOp.zero, (-1 : Int)) ++ List.replicate ((1 + thieves).toNat - i) (DOp.zero, (0 : Int))).set i (DOp.zero, -1) = List.replicate (i + 1) (DOp.zero, (-1 : Int)) ++ List.replicate ((1 + thieves).toNat - (i + 1)) (DOp.zero, (0 : Int)) := by
      rw [List.set_append_right _ _ (by simp), List.length_replicate, Nat.sub_self]
      have e1 : (1 + thieves).toNat - i = ((1 + thieves).toNat - (i + 1)) + 1 := by omega
      rw [e1, List.replicate_succ, List.set_cons_zero, List.replicate_succ' (n := i), List.append_assoc]
      rfl
    rw [this] at n2
    exact n2
  · have f : ¬ (i : Int) < (ac.len : Int) := f
    obtain rfl : i = (1 + thieves).toNat := by omega
    rw [Nat.sub_self, List.replicate_zero, List.append_nil] at ni
    have gk : Gm h k g b most td ac ⟨none, 0, 0⟩ c2 l2 (ps0 low most todos thieves) := g0 k ni xi
    have ok0 := ps0_ok (todos := todos) (thieves := thieves) j2 (by omega)
    have pi0 := ps0_pi (todos := todos) (thieves := thieves) j2 (by omega)
    have hac0 : (ps0 low most todos thieves).acts.length = (1 + thieves).toNat := List.length_replicate
    have hws : ∀ w ∈ whos thieves picks, w < (ps0 low most todos thieves).acts.length := fun w hw => by rw [hac0]; exact whos_mem (by omega) hw
    have hwl : (whos thieves picks).length = picks.length := List.length_map ..
    refine Loop.up picks.length (fun s => s.1) (fun i s k => ∃ td' ca' c' l', Gm h k g b most td' ac ca' c' l' ((ps0 low most todos thieves).run most 0 ((whos thieves picks).take i))) rfl ⟨td, _, c2, l2, gk⟩ ?_
    rintro i ⟨i', u⟩ k go hi hc ⟨td', ca', c', l', gi⟩ hgo
    dsimp only at hc; subst hc
    have hws' : ∀ w ∈ (whos thieves picks).take i, w < (ps0 low most todos thieves).acts.length := fun w hw => hws w (List.mem_of_mem_take hw)
    obtain ⟨oki, hli⟩ := run_ok (most := most) ((whos thieves picks).take i) (n := 0) ok0 hws'
    have htk : ((whos thieves picks).take i).length = i := by rw [List.length_take]; omega
    rw [htk] at oki
    refine dcase (fun f => ?_) (fun f => ?_)
    · have f : (i : Int) < (pk.len : Int) := f
      refine ⟨⟨by omega, f⟩, (hp.le gi.le).at (by omega) f rfl fun x hx => ?_⟩
      rw [Int.toNat_natCast] at hx
      rw [wt]
      have hr := mod_range (x := x) (n := 1 + thieves) (by omega)
      refine i6 (by omega) (by omega) ?_
      have hwx : (whos thieves picks)[i]? = some (x % (1 + thieves)).toNat := by unfold whos; rw [List.getElem?_map, hx]; rfl
      have hx' : x % (1 + thieves) = (((x % (1 + thieves)).toNat : Nat) : Int) := (Int.toNat_of_nonneg hr.1).symm
      show c7 (some (ptr g)) (i : Int) (x % (1 + thieves)) k _
      rw [hx']
      refine i7 (N := 0 + 2 * i) gi oki (by omega) (by rw [hli]; exact hws _ (List.mem_of_getElem? hwx)) fun td2 ca2 c2 l2 k2 g2 s2 => ?_
      refine hgo (by omega) _ _ (by show w64 ((i : Int) + 1) = _; rw [w64_of] <;> omega) ⟨td2, ca2, c2, l2, ?_⟩
      have hil : i < (whos thieves picks).length := by omega
      have hws1 : (whos thieves picks).take (i + 1) = (whos thieves picks).take i ++ [(x % (1 + thieves)).toNat] := by
        rw [List.take_add_one, hwx]; rfl
      rw [hws1, PS.run_snoc, htk, Nat.zero_add]
      exact g2
    · have f : ¬ (i : Int) < (pk.len : Int) := f
      obtain rfl : i = picks.length := by omega
      have hall : (whos thieves picks).take picks.length = whos thieves picks := by rw [← hwl, List.take_length]
      rw [hall] at gi oki hli
      have pir := pi0.runs (whos thieves picks) (n := 0) (by rw [hwl]; omega) hws
      have hro := pir.restOk (by rw [hwl]; omega)
      refine gi.ldc (i8 gi hro fun re h6 n6 => ⟨?_, ?_⟩)
      · exact (gi.obj.le n6.le).sees (kf := .sl) (y := ca') ⟨[.pointer (some (ptr b)), .int .i64 0, .int .i64 most, td'.val, ac.val], [], rfl, rfl⟩
      refine i9 (gi.ar.more n6.le) (Nat.le_trans oki.fit.lg (by omega)) fun lgs h7 n7 => ⟨?_, ?_⟩
      · exact ((gi.obj.le n6.le).le n7.le).sees (kf := .sl) (y := ca') ⟨[.pointer (some (ptr b)), .int .i64 0, .int .i64 most, td'.val, ac.val], [], rfl, rfl⟩
      refine hQ ca' re lgs h7 ⟨(gi.calls.more n6.le).more n7.le, (n6.more n7.le).base gi.le, n7.base (gi.le.trans n6.le), ?_, ?_, ?_⟩
      · exact (gi.calls.own.live).apart n6.new
      · exact ((gi.calls.own.live).le n6.le).apart n7.new
      · exact (n6.own.live).apart n7.new

end Go.Mx
