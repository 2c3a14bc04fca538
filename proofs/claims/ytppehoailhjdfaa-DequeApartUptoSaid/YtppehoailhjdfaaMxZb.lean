/-
  The law DequeStack.
-/
import Derived.Test.YtppehoailhjdfaaMxZa
import Derived.Test.YtppehoailhjdfaaMxNe
set_option linter.unusedVariables false
set_option linter.unusedSimpArgs false
set_option linter.unusedSectionVars false
namespace Go.Mx

/-- A loop whose rounds are counted by what holds. -/
theorem Loop.idxZ {σ : Type} {body : (σ → Heap → Prop) → σ → Heap → Prop} (N : Nat) (I : Nat → σ → Heap → Prop) {s : σ} {h : Heap} (h1 : I 0 s h)
    (hb : ∀ n s h go, n ≤ N → I n s h → (n < N → ∀ s' h', I (n + 1) s' h' → go s' h') → body go s h) : Loop body s h := by
  classical
  have top : ∀ (P : Nat → Prop), (∃ n, n ≤ N ∧ P n) → ∃ n, n ≤ N ∧ P n ∧ ∀ m, m ≤ N → P m → m ≤ n := by
    intro P
    have key : ∀ k, (∃ n, n ≤ N ∧ P n ∧ N - n ≤ k) → ∃ n, n ≤ N ∧ P n ∧ ∀ m, m ≤ N → P m → m ≤ n := by
      intro k
      induction k with
      | zero => rintro ⟨n, a, b, c⟩; exact ⟨n, a, b, fun m hm _ => by omega⟩
      | succ k ih =>
        rintro ⟨n, a, b, c⟩
        by_cases q : ∃ m, m ≤ N ∧ P m ∧ n < m
        · obtain ⟨m, m1, m2, m3⟩ := q
          exact ih ⟨m, m1, m2, by omega⟩
        · exact ⟨n, a, b, fun m m1 m2 => Nat.le_of_not_lt fun m3 => q ⟨m, m1, m2, m3⟩⟩
    rintro ⟨n, a, b⟩
    exact key N ⟨n, a, b, by omega⟩
  refine ⟨fun s h => ∃ n, n ≤ N ∧ I n s h, fun s h => if q : ∃ n, n ≤ N ∧ I n s h then N - Classical.choose (top (fun n => I n s h) q) else 0, ⟨0, Nat.zero_le _, h1⟩, ?_⟩
  intro s h hs
  have hc := Classical.choose_spec (top (fun n => I n s h) hs)
  refine hb _ s h _ hc.1 hc.2.1 fun hlt s' h' hI => ⟨⟨_, hlt, hI⟩, ?_⟩
  have hs' : ∃ n, n ≤ N ∧ I n s' h' := ⟨_, hlt, hI⟩
  have hc' := Classical.choose_spec (top (fun n => I n s' h') hs')
  have := hc'.2.2 _ hlt hI
  show (if q : ∃ n, n ≤ N ∧ I n s' h' then N - Classical.choose (top (fun n => I n s' h') q) else 0) < (if q : ∃ n, n ≤ N ∧ I n s h then N - Classical.choose (top (fun n => I n s h) q) else 0)
  rw [dif_pos hs', dif_pos hs]
  omega
theorem runD_succ : ∀ (n : Nat) (s : AS) (o : DOp), runD (n + 1) s o = stepD arenaI (runD n s o).1 (runD n s o).2
  | 0, s, o => rfl
  | n + 1, s, o => by rw [runD, runD_succ n]; rfl
theorem answer_stop {s : AS} {o : DOp} (h : o.answer.1 ≠ 0) : stepD arenaI s o = (s, o) := by
  unfold DOp.answer at h
  by_cases e : o = DOp.zero
  · unfold stepD; rw [if_pos e]
  · rw [if_neg e] at h
    by_cases p : o.pc = 0
    · exact stepD_end p
    · rw [if_pos p] at h; exact absurd rfl h
theorem runD_stop : ∀ (n m : Nat) {s : AS} {o : DOp}, (runD n s o).2.answer.1 ≠ 0 → runD (n + m) s o = runD n s o
  | n, 0, _, _, _ => rfl
  | n, m + 1, s, o, h => by
    rw [← Nat.add_assoc, runD_succ, runD_stop n m h, answer_stop h]
theorem arena_lg {s : AS} (h : s.wt = false) (r : Rq) : (arenaI s r).2.lg = s.lg := by
  have lg : ∀ (s' : AS) a, s'.wt = false → (s'.log a).lg = s'.lg := fun s' a e => by
    show wl s'.wt s'.lg a = _
    rw [e]; rfl
  unfold arenaI
  cases r with
  | ld a => dsimp only; split; exact lg _ _ h; rfl
  | st a v => dsimp only; split; exact lg _ _ h; rfl
  | cas a x y => dsimp only; split; exact lg _ _ h; rfl
  | rs n =>
    dsimp only
    split
    · rfl
    · split
      · rfl
      · exact lg _ _ h
/-- A memory that is not watched. -/
structure Qt (s : AS) : Prop where
  wt : s.wt = false
  lg : s.lg = []
  cs : (s.cs.length : Int) ≤ s.sz
  sz : s.sz ≤ 1048576
theorem Qt.step {s : AS} (q : Qt s) (o : DOp) : Qt (stepD arenaI s o).1 := by
  have f : s.Fit 0 := ⟨by rw [q.lg]; exact Nat.le_refl _, q.cs, q.sz⟩
  obtain ⟨f1, f2, f3, f4⟩ := f.step o
  refine ⟨f4.trans q.wt, ?_, f1.cs, f1.sz⟩
  unfold stepD
  split
  · exact q.lg
  · split
    · exact q.lg
    · have := arena_lg q.wt o.req
      split <;> exact this.trans q.lg
theorem Qt.run : ∀ (n : Nat) {s : AS} (o : DOp), Qt s → Qt (runD n s o).1
  | 0, _, _, q => q
  | n + 1, s, o, q => Qt.run n _ (q.step o)
theorem runD_ok : ∀ (n : Nat) {s : AS} {o : DOp}, o.Ok → o.most ≤ 4096 → (runD n s o).2.Ok ∧ (runD n s o).2.most ≤ 4096
  | 0, _, _, h, m => ⟨h, m⟩
  | n + 1, s, o, h, m => by
    obtain ⟨a, b⟩ := stepD_ok arenaI s h m
    exact runD_ok n a (by rw [b.2.2.1]; exact m)
abbrev FlatT := Int × (Int × (Int × (Int × (Int × (Int × (Int × (Int × (Int × (Int × (Int × (Int × (Int × (Bool × Den KP2)))))))))))))
def DOp.flat (o : DOp) : FlatT := (o.kind, (o.pc, (o.base, (o.most, (o.v, (o.t, (o.b, (o.a, (o.c, (o.a2, (o.c2, (o.i, (o.x, (o.won, (o.code, (o.value, ()))))))))))))))))

def StepJ (T : TypeId) (c : Value → Den KOp → Heap → (Den KOp → Heap → Prop) → Prop) : Prop := ∀ {h0 : Heap} {b : Nat} {h : Heap} {s : AS} {S : Nat → Prop} {x : DOp} {Q : Den KOp → Heap → Prop}, RA h0 b s S h → s.lg.length ≤ 1000000000 → (s.cs.length : Int) ≤ s.sz → s.sz ≤ 1048576 → x.Ok →
    (∀ S' h', RA h0 b (stepD arenaI s x).1 S' h' → Step S S' h h' → Q (stepD arenaI s x).2.den h') → c (.iface T (.pointer (some (ptr b)))) x.den h Q
def AnswJ (c : Den KOp → Heap → (Den KP2 → Heap → Prop) → Prop) : Prop := ∀ {o : DOp} {h : Heap} {Q : Den KP2 → Heap → Prop}, Q (o.answer.1, (o.answer.2, ())) h → c o.den h Q
def WholeJ (c : Option Addr → Den KOp → Int → Heap → ((Int × (Int × (Bool × Unit))) → Heap → Prop) → Prop) : Prop := ∀ {h0 : Heap} {b : Nat} {h : Heap} {s : AS} {S : Nat → Prop} {x : DOp} {n : Nat} {Q : (Int × (Int × (Bool × Unit))) → Heap → Prop}, RA h0 b s S h → Qt s → x.Ok → x.most ≤ 4096 → n ≤ 100000 →
    (∀ S' h', RA h0 b (runD n s x).1 S' h' → Step S S' h h' → Q ((runD n s x).2.answer.1, ((runD n s x).2.answer.2, (decide ((runD n s x).2.answer.1 ≠ 0), ()))) h') → c (some (ptr b)) x.den n h Q
theorem whole_spec {cA cS} (iA : AnswJ cA) (iS : StepJ 24 cS) : WholeJ (law3_whole.M cA cS) := by
  intro h0 b h s S x n Q hR q ok hm hn hQ
  have fin : ∀ {j : Nat} {S' : Nat → Prop} {g : Heap}, runD n s x = runD j s x → RA h0 b (runD j s x).1 S' g → Step S S' h g → law3_whole.j1 cA Q ((runD j s x).2.flat, ()) g := by
    intro j S' g e R st
    rw [← e] at R ⊢
    exact iA (o := (runD n s x).2) (hQ S' g R st)
  refine Loop.idxZ n (fun j t g => t.1 = (j : Int) ∧ t.2.1 = (runD j s x).2.flat ∧ ∃ S', RA h0 b (runD j s x).1 S' g ∧ Step S S' h g) ⟨rfl, rfl, S, hR, .refl _ _⟩ ?_
  rintro j ⟨j', f, u⟩ g go hj ⟨hc, hf, S', R, st⟩ hgo
  dsimp only at hc hf; subst hc; subst hf
  refine ⟨fun d => iA (o := (runD j s x).2) ⟨fun e => ?_, fun e => ?_⟩, fun d => ?_⟩
  · have e : (runD j s x).2.answer.1 ≠ 0 := of_decide_eq_true e
    have := runD_stop j (n - j) e
    rw [Nat.add_sub_cancel' hj] at this
    exact fin this R st
  · have d : (j : Int) < (n : Int) := of_decide_eq_true d
    have qj := q.run j x
    obtain ⟨o1, o2⟩ := runD_ok j (s := s) ok hm
    refine iS (x := (runD j s x).2) R (by rw [qj.lg]; exact Nat.zero_le _) qj.cs qj.sz o1 fun S2 g2 R2 s2 => ?_
    rw [← runD_succ] at R2 ⊢
    exact hgo (by omega) _ _ ⟨by show w64 ((j : Int) + 1) = _; rw [w64_of] <;> omega, rfl, S2, R2, st.trans s2⟩
  · have d : ¬ (j : Int) < (n : Int) := of_decide_eq_false d
    obtain rfl : j = n := by omega
    exact fin rfl R st
def OpJ1 (c : Den KP2 → Int → Heap → (Den KOp → Heap → Prop) → Prop) : Prop := ∀ {base most v : Int} {h : Heap} {Q : Den KOp → Heap → Prop}, Q (DOp.push base most v).den h → c (base, (most, ())) v h Q
def OpJ (f : Int → Int → DOp) (c : Den KP2 → Heap → (Den KOp → Heap → Prop) → Prop) : Prop := ∀ {base most : Int} {h : Heap} {Q : Den KOp → Heap → Prop}, Q (f base most).den h → c (base, (most, ())) h Q
theorem DEnd.ans {most sz K : Int} {l : List Int} {c v : Int} {s : AS} {o : DOp} (e : DEnd most sz K l c v s o) : o.answer = (c, v) := by
  unfold DOp.answer
  rw [if_neg e.nz, if_neg (fun h => h e.pc), e.co, e.va]
theorem DS.start {low most : Int} (hc : CapE low most) (m : AS) (hs : m.sz = cellsOf low most) (hcs : m.cs = laid low []) : DS most (cellsOf low most) 0 m [] := by
  have hp := ps0_pi (todos := []) (thieves := 0) hc (Int.le_refl _)
  have g := hp.dg
  have ez : ((ps0 low most [] 0).act 0).1 = DOp.zero := rfl
  rw [ez] at g
  have g : DG most (cellsOf low most) 0 (laid low []) DOp.zero := g
  refine ⟨by rw [hcs]; exact g, hs, ?_⟩
  rw [hcs]
  have hz : Bl (laid low []) DOp.zero = gt (laid low []) 1 := Bl_up (lowp (.inl rfl))
  have b := g.bn
  have t := g.t0
  rw [hz] at b
  exact ctn_nil (by omega)
theorem New.apps4 {h0 h : Heap} {k : Kd} {s x : Sl} {xs ys : List (Den k)} (o : New h0 h k s xs) (hx : Arr h k x ys) (hone : k.flat = true) {sz bytes : Nat} (hsz : sz = k.size) (hb : (s.len + x.len) * bytes ≤ 140737488355328) {K : Sl → Heap → Prop}
    (hK : ∀ t h', New h0 h' k t (xs ++ ys) → K t h') : appendM sz bytes h s x K := o.apps hx hone hsz hb hK
theorem New.cutV {h0 h : Heap} {k : Kd} {s : Sl} {xs : List (Den k)} (o : New h0 h k s xs) {n : Nat} (hn : n ≤ s.len) {sz : Nat} : New h0 h k (s.cut 0 n sz) (xs.take n) ∧ ∀ b, blkOf (s.cut 0 n sz) b → blkOf s b := by
  have hl := o.len
  have own := o.own
  refine ⟨⟨?_, by rw [List.length_take]; show min n xs.length = n - 0; omega, o.le, fun x hx => o.new x (blk_cut hx)⟩, fun b hb => blk_cut hb⟩
  rcases own with ⟨rfl, rfl⟩ | ⟨b, ha, h1, h2, z, hz, hb⟩
  · left
    have hn : n = 0 := Nat.le_zero.1 hn
    subst hn
    exact ⟨rfl, rfl⟩
  · right
    refine ⟨b, ?_, ?_, ?_, (xs.drop n).flatMap k.cells ++ z, ?_, ?_⟩
    · unfold Sl.cut
      dsimp only
      split
      · exact ha
      · rw [ha, Nat.zero_mul]; rfl
    · show n - 0 ≤ _; rw [List.length_take]; omega
    · show _ ≤ s.cap - 0; rw [List.length_take]; omega
    · show _ = (s.cap - 0 - (xs.take n).length) * k.size
      rw [List.length_append, flat_len, hz, List.length_drop, List.length_take, Nat.min_eq_left (by omega), Nat.sub_zero, ← Nat.add_mul]
      congr 1; omega
    · rw [hb, ← List.append_assoc, ← List.flatMap_append, List.take_append_drop]
theorem stack_spec {cK cN cC cA cP cO cS cL cW} (iK : ∀ {a b : Int} {h : Heap} {Q : Bool → Heap → Prop}, (CapE a b → Q true h) → (¬ CapE a b → Q false h) → cK a b h Q)
    (iN0 : ∀ {a b : Int} {h : Heap} {Q : (Den KP2 × (Int × Unit)) → Heap → Prop}, Q ((0, (0, ())), (1, ())) h → cN Value.nilIface a b h Q)
    (iN : ∀ {h0 h : Heap} {b : Nat} {c l : Sl} {sz low most : Int} {Q : (Den KP2 × (Int × Unit)) → Heap → Prop}, Ar h0 h b c l sz [] [] 0 false → sz ≤ 1048576 → CapE low most → 4 + low ≤ sz → (∀ c' l' h', Ar h0 h' b c' l' sz (laid low []) [] 0 false → Step (fpA b c l) (fpA b c' l') h h' → Q ((0, (most, ())), (0, ())) h') → cN (.iface 24 (.pointer (some (ptr b)))) low most h Q)
    (iC : ∀ {a b : Int} {h : Heap} {Q : Int → Heap → Prop}, (CapE a b → Q (cellsOf a b) h) → (¬ CapE a b → Q 0 h) → cC a b h Q)
    (iA : ∀ {size : Int} {h : Heap} {Q : (Option Addr × (Int × Unit)) → Heap → Prop}, (¬ (0 ≤ size ∧ size ≤ 1048576) → Q (none, (3, ())) h) → (0 ≤ size ∧ size ≤ 1048576 → ∀ b h', Ar h h' b ⟨none, 0, 0⟩ ⟨none, 0, 0⟩ size [] [] 0 false → Q (some (ptr b), (0, ())) h') → cA size h Q)
    (iP : OpJ1 cP) (iO : OpJ DOp.pop cO) (iS : OpJ DOp.steal cS) (iL : OpJ DOp.look cL) (iW : WholeJ cW) {low most : Int} {td : Sl} {h : Heap} {ts : List DTd} (ht : Arr h KTd td ts) (hn : ts.length ≤ 1048576) {Q : Bool → Heap → Prop} (hQ : ∀ h', Go.Mx.le h h' → Q true h') :
    law3_DequeStack.M cK cN cC cA cP cO cS cL cW low most td h Q := by
  refine iK (fun hc => ⟨fun e => (by cases e), fun _ => ?_⟩) (fun hc => ⟨fun _ => iN0 (hQ h (.refl _)), fun e => (by cases e)⟩)
  have hb := cellsOf_bound hc
  obtain ⟨c1, c2, c3⟩ := hc
  have hc : CapE low most := ⟨c1, c2, c3⟩
  refine iC (fun _ => iA (fun q => absurd ⟨by omega, by omega⟩ q) fun _ b h1 o1 => ⟨fun e => absurd rfl (of_decide_eq_true e), fun _ => ?_⟩) (fun q => absurd hc q)
  refine iN (b := b) o1 hb.2 hc hb.1 fun c l h2 o2 s2 => ⟨fun e => absurd rfl (of_decide_eq_true e), fun _ => ?_⟩
  have tl := ht.1
  refine Loop.up ts.length (fun s => s.2.1) (fun i s g => ∃ m S ll, RA h b m S g ∧ Qt m ∧ DS most (cellsOf low most) (i : Int) m ll ∧ New h g ki s.1 ll ∧ ∀ x, blkOf s.1 x → ¬ S x) rfl
    ⟨⟨cellsOf low most, laid low [], [], 0, false⟩, _, [], ⟨c, l, rfl, o2⟩, ⟨rfl, rfl, by show ((laid low []).length : Int) ≤ _; rw [laid_len low c1]; exact hb.1, hb.2⟩, DS.start hc _ rfl rfl, New.none o2.le ki, fun x p => (no_blk p).elim⟩ ?_
  rintro i ⟨sl, i', u⟩ g go hi hcn ⟨m, S, ll, R, q, D, nl, ap⟩ hgo
  dsimp only at hcn nl ap; subst hcn
  have hle := nl.le
  refine ⟨fun d => ?_, fun d => hQ g hle⟩
  have hlt : (i : Int) < (td.len : Int) := of_decide_eq_true d
  clear d
  have hil : i < ts.length := by omega
  have hb' : 0 ≤ (i : Int) ∧ (i : Int) < (td.len : Int) := ⟨by omega, hlt⟩
  refine ⟨hb', (ht.le hle).at (i := (i : Int)) hb'.1 hb'.2 rfl fun t _ => ?_⟩
  obtain ⟨t1, t2, tu⟩ := t
  change Int at t1 t2
  have hK : (i : Int) ≤ 10000000 := by omega
  obtain ⟨f1, f2, f3⟩ := D.facts hK (by omega) c3
  have nll := nl.len
  have liveS : ∀ {g' : Heap} {S' : Nat → Prop} {m' : AS}, RA h b m' S' g' → ∀ x, S' x → g' x ≠ none := by
    rintro g' S' m' ⟨c, l, rfl, o⟩ x hx
    exact o.live hx
  have freshS : ∀ {g' : Heap} {S' : Nat → Prop} {m' : AS}, RA h b m' S' g' → ∀ x, S' x → h x = none := by
    rintro g' S' m' ⟨c, l, rfl, o⟩ x hx
    exact o.fresh hx
  have extS : ∀ {g1 g2 : Heap} {m' : AS} {S' T : Nat → Prop}, RA h b m' S' g1 → Ext T g1 g2 → (∀ x, S' x → ¬ T x) → (∀ x, T x → h x = none) → RA h b m' S' g2 := by
    rintro g1 g2 m' S' T ⟨c, l, rfl, o⟩ e n f
    exact ⟨c, l, rfl, o.ext e n f⟩
  have hw : w64 (9 + w64 (2 * (sl.len : Int))) = ((9 + 2 * ll.length : Nat) : Int) := by
    rw [w64_of (x := 2 * (sl.len : Int)) (by omega) (by omega), w64_of] <;> omega
  -- a call, run whole
  have call : ∀ {g1 : Heap} {sl' : Sl} {ll' : List Int} {o : DOp} {want x : Int}, RA h b m S g1 → New h g1 ki sl' ll' → (∀ x, blkOf sl' x → ¬ S x) → o.Ok → o.most ≤ 4096 → want ≠ 0 → DEnd most (cellsOf low most) ((i : Int) + 1) ll' want x (runD (9 + 2 * ll.length) m o).1 (runD (9 + 2 * ll.length) m o).2 →
      law3_DequeStack.j3 cW Q (some (ptr b), (0, ())) go (sl, ((i : Int), u)) (sl', (want, (x, (o.flat, ())))) g1 := by
    intro g1 sl' ll' o want x R1 n1 a1 ok hm hw0 E
    show cW (some (ptr b)) o.den (w64 (9 + w64 (2 * (sl.len : Int)))) g1 _
    rw [hw]
    refine iW R1 q ok hm (by omega) fun S' g2 R2 s2 => ?_
    have ha := E.ans
    rw [ha]
    have n2 : New h g2 ki sl' ll' := n1.ext s2.1 a1 (freshS R1)
    have a2 : ∀ x, blkOf sl' x → ¬ S' x := s2.off a1 (fun x p => n1.own.live x p)
    refine ⟨fun e => ?_, fun _ => ⟨fun e => absurd rfl (of_decide_eq_true e), fun _ => ?_⟩⟩
    · have e : (!(decide (want ≠ 0))) = true := e
      rw [decide_eq_true hw0] at e; cases e
    · show law3_DequeStack.j2 Q go _ _ (decide (x ≠ x), ()) g2
      rw [decide_eq_false (fun h => h rfl)]
      refine ⟨fun e => (by cases e), fun _ => hgo hil _ _ (by show w64 ((i : Int) + 1) = _; rw [w64_of] <;> omega) ⟨_, S', ll', R2, q.run _ o, ?_, n2, a2⟩⟩
      have := E.ds
      rw [show ((i + 1 : Nat) : Int) = (i : Int) + 1 by omega]
      exact this
  have okp : ∀ v, (DOp.push 0 most v).Ok ∧ (DOp.push 0 most v).most ≤ 4096 := fun v => ⟨DOp.Ok.begin (.inl rfl), by unfold DOp.push DOp.begin; rw [if_neg (by omega), if_neg (by omega)]; exact c3⟩
  have oko : (DOp.pop 0 most).Ok ∧ (DOp.pop 0 most).most ≤ 4096 := ⟨DOp.Ok.begin (.inl rfl), by unfold DOp.pop DOp.begin; rw [if_neg (by omega), if_neg (by omega)]; exact c3⟩
  have oks : (DOp.steal 0 most).Ok ∧ (DOp.steal 0 most).most ≤ 4096 := ⟨DOp.Ok.begin (.inr rfl), by unfold DOp.steal DOp.begin; rw [if_neg (by omega), if_neg (by omega)]; exact c3⟩
  have okl : (DOp.look 0 most).Ok ∧ (DOp.look 0 most).most ≤ 4096 := ⟨DOp.Ok.begin (.inr rfl), by unfold DOp.look DOp.begin; rw [if_neg (by omega), if_neg (by omega)]; exact c3⟩
  have mono : ∀ {l : List Int} {c v : Int} {s : AS} {o : DOp}, DEnd most (cellsOf low most) (i : Int) l c v s o → DEnd most (cellsOf low most) ((i : Int) + 1) l c v s o := fun e => e.mono (by omega) (by omega)
  refine ⟨fun k => iP ?_, fun k => ⟨fun k2 => iO ?_, fun k2 => ⟨fun k3 => iS ?_, fun k3 => iL ?_⟩⟩⟩
  · have P := D.push hK (by omega) c3 t2
    refine ⟨fun e => ?_, fun e => ?_⟩
    · have e : (sl.len : Int) = most := of_decide_eq_true e
      rw [if_pos (by omega)] at P
      exact call (o := DOp.push 0 most t2) R nl ap (okp t2).1 (okp t2).2 (by decide) P
    · have e : ¬ (sl.len : Int) = most := of_decide_eq_false e
      rw [if_neg (by omega)] at P
      refine nl.app3 rfl rfl (by omega) fun t h3 n3 x3 b3 => ?_
      refine call (o := DOp.push 0 most t2) (extS R x3 (fun x p q => ap x q p) nl.new) n3 (fun x p => ?_) (okp t2).1 (okp t2).2 (by decide) P
      rcases b3 x p with z | z
      · exact ap x z
      · exact fun w => liveS R x w z
  · have P := D.pop hK (by omega) c3
    refine ⟨fun e => ?_, fun e => ?_⟩
    · have e : (0 : Int) < (sl.len : Int) := of_decide_eq_true e
      rw [if_neg (fun z => by rw [z] at nll; have : (0 : Nat) = sl.len := nll; omega)] at P
      obtain ⟨l', v, el, E⟩ := P
      have hll : ll.length = l'.length + 1 := by rw [el, List.length_append]; rfl
      have hwl : w64 ((sl.len : Int) - 1) = ((l'.length : Nat) : Int) := by
        rw [w64_of] <;> omega
      show (0 ≤ w64 ((sl.len : Int) - 1) ∧ w64 ((sl.len : Int) - 1) < (sl.len : Int)) ∧ deref sl.a fun a36 => ld ki g (a36.add ((w64 ((sl.len : Int) - 1)).toNat * 1)) fun t37 => (0 ≤ w64 ((sl.len : Int) - 1) ∧ w64 ((sl.len : Int) - 1) ≤ (sl.cap : Int)) ∧ law3_DequeStack.j3 cW Q (some (ptr b), (0, ())) go (sl, ((i : Int), u)) (sl.cut 0 (w64 ((sl.len : Int) - 1)).toNat 1, (4, (t37, ((DOp.pop 0 most).flat, ())))) g
      rw [hwl]
      have hbb : 0 ≤ ((l'.length : Nat) : Int) ∧ ((l'.length : Nat) : Int) < (sl.len : Int) := ⟨by omega, by omega⟩
      have hcap := nl.arr.2.1
      refine ⟨hbb, nl.arr.at (i := ((l'.length : Nat) : Int)) hbb.1 hbb.2 rfl fun y hy => ⟨⟨by omega, by omega⟩, ?_⟩⟩
      rw [Int.toNat_natCast, el, List.getElem?_append_right (Nat.le_refl _), Nat.sub_self] at hy
      cases hy
      rw [Int.toNat_natCast]
      obtain ⟨n3, b3⟩ := nl.cutV (n := l'.length) (by omega) (sz := 1)
      rw [el, List.take_left' rfl] at n3
      exact call (o := DOp.pop 0 most) R n3 (fun x p => ap x (b3 x p)) oko.1 oko.2 (by decide) (mono E)
    · have e : ¬ (0 : Int) < (sl.len : Int) := of_decide_eq_false e
      have z : ll = [] := List.length_eq_zero_iff.1 (by omega)
      rw [if_pos z] at P
      refine call (o := DOp.pop 0 most) (ll' := []) R (by rw [← z]; exact nl) ap oko.1 oko.2 (by decide) (mono P)
  · have P := D.steal hK (by omega) c3
    refine ⟨fun e => ?_, fun e => ?_⟩
    · have e : (0 : Int) < (sl.len : Int) := of_decide_eq_true e
      rw [if_neg (fun z => by rw [z] at nll; have : (0 : Nat) = sl.len := nll; omega)] at P
      obtain ⟨v, l', el, E⟩ := P
      have hb0 : 0 ≤ (0 : Int) ∧ (0 : Int) < (sl.len : Int) := ⟨Int.le_refl _, e⟩
      have hb1 : 0 ≤ (1 : Int) ∧ (1 : Int) ≤ (sl.len : Int) := ⟨by decide, by omega⟩
      refine ⟨hb0, nl.arr.at (i := (0 : Int)) hb0.1 hb0.2 rfl fun y hy => New.mk0 fun p h3 n3 => ⟨hb1, ?_⟩⟩
      rw [el] at hy
      obtain rfl : v = y := by simpa using hy
      have suf := (nl.more n3.le).arr.suf (n := 1) (by omega) (sz := 1) rfl
      rw [el] at suf
      refine n3.apps suf rfl rfl (Nat.le_trans (Nat.mul_le_mul_right 8 (show 0 + (sl.len - 1) ≤ 100000 by omega)) (by decide)) fun t h4 n4 => ?_
      refine call (o := DOp.steal 0 most) (extS R n4.le.toExt (fun _ _ => id) (fun _ h => h.elim)) (n4.base hle) (fun x p w => liveS R x w (n4.new x p)) oks.1 oks.2 (by decide) (mono E)
    · have e : ¬ (0 : Int) < (sl.len : Int) := of_decide_eq_false e
      have z : ll = [] := List.length_eq_zero_iff.1 (by omega)
      rw [if_pos z] at P
      refine call (o := DOp.steal 0 most) (ll' := []) R (by rw [← z]; exact nl) ap oks.1 oks.2 (by decide) (mono P)
  · have P := D.look hK (by omega) c3
    refine ⟨fun e => ?_, fun e => ?_⟩
    · have e : (0 : Int) < (sl.len : Int) := of_decide_eq_true e
      rw [if_neg (fun z => by rw [z] at nll; have : (0 : Nat) = sl.len := nll; omega)] at P
      exact call (o := DOp.look 0 most) R nl ap okl.1 okl.2 (by decide) (mono P)
    · have e : ¬ (0 : Int) < (sl.len : Int) := of_decide_eq_false e
      have z : ll = [] := List.length_eq_zero_iff.1 (by omega)
      rw [if_pos z] at P
      exact call (o := DOp.look 0 most) R nl ap okl.1 okl.2 (by decide) (mono P)

end Go.Mx
