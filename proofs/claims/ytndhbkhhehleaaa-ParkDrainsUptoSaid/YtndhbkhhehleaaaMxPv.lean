/-
  A play of a pusher and sleepers, as plain data.
  Several things of one's own in one memory, kept apart: a stage.
  A play of a pusher and sleepers in memory.
  A play of a pusher and sleepers: the walks of begin, worker, sleeper.
  A play of a pusher and sleepers: what it tells.
  deque.New and park.New over an arena that is not watched and has room.
  A play of a pusher and sleepers: park.Play.
  park.Play: the walk.
-/
import Derived.Test.YtndhbkhhehleaaaMxPe
import Derived.Test.YtndhbkhhehleaaaMxQh
import Derived.Test.YtndhbkhhehleaaaMxOb
import Derived.Test.YtndhbkhhehleaaaMxDn
import Derived.Test.YtndhbkhhehleaaaMxQc
set_option linter.unusedVariables false
set_option linter.unusedSimpArgs false
set_option linter.unusedSectionVars false
namespace Go.Mx

abbrev KGa : Kd := .pair ki (.pair KPOp (.pair KOp (.pair .bool (.pair .bool (.pair .bool .nil)))))
structure GAct where
  busy : Int
  lot : POp
  dq : DOp
  halted : Bool
  steals : Bool
  wakes : Bool
def GAct.zero : GAct := ⟨0, .zero, .zero, false, false, false⟩
def GAct.den (a : GAct) : Den KGa := (a.busy, (a.lot.den, (a.dq.den, (a.halted, (a.steals, (a.wakes, ()))))))
structure PG where
  m : AS
  todos : List DTd
  acts : List GAct
  taken : List (Den KP2)
  woken : Int
def PG.act (g : PG) (i : Nat) : GAct := g.acts[i]?.getD .zero
def PG.put (g : PG) (i : Nat) (a : GAct) : PG := { g with acts := g.acts.set i a }
def took (who : Int) (a : Int × Int) (l : List (Den KP2)) : List (Den KP2) := if a.1 = 4 then l ++ [(who, (a.2, ()))] else l
def GAct.todo (P : Int) (d : Den KP2) (t : DTd) (a : GAct) : GAct :=
  if t.1 = 0 then { a with busy := 1, dq := DOp.push d.1 d.2.1 t.2.1 } else if t.1 = 1 then { a with busy := 1, dq := DOp.pop d.1 d.2.1 } else { a with busy := 2, lot := finD 0 P 0 }
def PG.begin (P : Int) (d : Den KP2) (g : PG) : Option PG :=
  if (g.act 0).wakes = true then some (g.put 0 { g.act 0 with wakes := false, busy := 2, lot := wakeD 0 P 0 })
  else match g.todos with
    | [] => none
    | t :: ts => some { g with todos := ts, acts := g.acts.set 0 ((g.act 0).todo P d t) }
def PG.lot0 (g : PG) (r : AS × POp) : PG :=
  { g with m := r.1, acts := g.acts.set 0 { g.act 0 with lot := r.2, busy := if r.2.answer.1 ≠ 0 then 0 else (g.act 0).busy }, woken := if r.2.answer.1 = 18 then w64 (g.woken + 1) else g.woken }
def PG.dq0 (g : PG) (r : AS × DOp) : PG :=
  if r.2.answer.1 = 0 then { g with m := r.1, acts := g.acts.set 0 { g.act 0 with dq := r.2 } }
  else { g with m := r.1, acts := g.acts.set 0 { g.act 0 with dq := r.2, busy := 0, wakes := decide (r.2.answer.1 = 2) }, taken := took 0 r.2.answer g.taken }
def PG.workGo (g : PG) : PG := if (g.act 0).busy = 2 then g.lot0 (stepP g.m (g.act 0).lot) else g.dq0 (stepD arenaI g.m (g.act 0).dq)
def PG.work (P : Int) (d : Den KP2) (g : PG) : PG := if (g.act 0).busy = 0 then match g.begin P d with | none => g | some g' => g'.workGo else g.workGo
def GAct.rest (P : Int) (ds : List (Den KP2)) (who : Int) (a : GAct) : GAct :=
  if a.steals = true then { a with busy := 1, lot := restD 0 P who ds, dq := DOp.steal (dqAt ds 0).1 (dqAt ds 0).2.1 } else { a with busy := 2, lot := restD 0 P who ds }
def GAct.rested (a : GAct) (o : POp) : GAct :=
  if o.answer.1 = 0 then { a with lot := o } else if o.answer.1 = 17 then { a with lot := o, halted := true, busy := 0 } else if o.answer.1 = 16 then { a with lot := o, steals := true, busy := 0 } else { a with lot := o, busy := 0 }
def PG.lotS (g : PG) (who : Nat) (r : AS × POp) : PG := { g with m := r.1, acts := g.acts.set who ((g.act who).rested r.2) }
def PG.dqS (g : PG) (who : Nat) (r : AS × DOp) : PG :=
  if r.2.answer.1 = 0 then { g with m := r.1, acts := g.acts.set who { g.act who with dq := r.2 } }
  else { g with m := r.1, acts := g.acts.set who { g.act who with dq := r.2, busy := 0, steals := false }, taken := took (who : Int) r.2.answer g.taken }
def PG.sleepGo (g : PG) (who : Nat) : PG := if (g.act who).busy = 1 then g.dqS who (stepD arenaI g.m (g.act who).dq) else g.lotS who (stepP g.m (g.act who).lot)
def PG.sleep (P : Int) (ds : List (Den KP2)) (g : PG) (who : Nat) : PG :=
  if (g.act who).halted = true then g else if (g.act who).busy = 0 then (g.put who ((g.act who).rest P ds (who : Int))).sleepGo who else g.sleepGo who
def PG.whoS (g : PG) (who : Nat) : PG := { g with m := { g.m with who := (who : Int) } }
def PG.pick (P : Int) (ds : List (Den KP2)) (g : PG) (who : Nat) : PG := if who = 0 then (g.whoS who).work P (dqAt ds 0) else (g.whoS who).sleep P ds who
def PG.run (P : Int) (ds : List (Den KP2)) (g : PG) : List Nat → PG
  | [] => g
  | w :: ws => PG.run P ds (g.pick P ds w) ws
theorem PG.run_snoc (P : Int) (ds : List (Den KP2)) : ∀ (ws : List Nat) (g : PG) (w : Nat), g.run P ds (ws ++ [w]) = (g.run P ds ws).pick P ds w
  | [], g, w => rfl
  | x :: ws, g, w => PG.run_snoc P ds ws (g.pick P ds x) w
theorem PG.run_app (P : Int) (ds : List (Den KP2)) : ∀ (ws vs : List Nat) (g : PG), g.run P ds (ws ++ vs) = (g.run P ds ws).run P ds vs
  | [], vs, g => rfl
  | x :: ws, vs, g => PG.run_app P ds ws vs (g.pick P ds x)
def GAct.state (a : GAct) : Int := if a.halted = true then 3 else if a.steals = true then 2 else if a.busy = 2 ∧ a.lot.parked = true then 1 else 0

theorem gact_get {g : PG} {i : Nat} (h : i < g.acts.length) : g.acts[i]? = some (g.act i) := by
  unfold PG.act
  rw [List.getElem?_eq_getElem h]; rfl
theorem gact_mem {g : PG} {i : Nat} (h : i < g.acts.length) : g.act i ∈ g.acts := List.mem_of_getElem? (gact_get h)
theorem gact_set {l : List GAct} {g : PG} {i j : Nat} {x : GAct} (hl : g.acts = l.set i x) (hi : i < l.length) : g.act j = if j = i then x else l[j]?.getD .zero := by
  unfold PG.act
  rw [hl]
  by_cases e : j = i
  · subst e; rw [if_pos rfl, List.getElem?_set_self hi]; rfl
  · rw [if_neg e, List.getElem?_set_ne (fun q => e q.symm)]
structure ActOk (a : GAct) : Prop where
  lot : ∃ ds r, RelP ds a.lot r
  dq : a.dq.Ok
  most : a.dq.most ≤ 4096
structure GOk (g : PG) (N : Nat) : Prop where
  fit : g.m.Fit N
  ok : ∀ a ∈ g.acts, ActOk a
  tk : g.taken.length ≤ N
theorem dead_rel (ds : List (Den KP2)) : RelP ds POp.zero R9.dead := .inl ⟨rfl, .inl rfl, rfl, by decide⟩
theorem ActOk.zero : ActOk GAct.zero := ⟨⟨[], R9.dead, dead_rel []⟩, .zero, by decide⟩
theorem took_len (w : Int) (a : Int × Int) (l : List (Den KP2)) : (took w a l).length ≤ l.length + 1 := by
  unfold took
  split
  · rw [List.length_append]; exact Nat.le_refl _
  · omega
theorem AS.Fit.mono {m : AS} {n k : Nat} (f : m.Fit n) (h : n ≤ k) : m.Fit k := ⟨Nat.le_trans f.lg h, f.cs, f.sz⟩
theorem AS.Fit.stepPP {s : AS} {n : Nat} (ft : s.Fit n) (o : POp) : (Go.Mx.stepP s o).1.Fit (n + 1) ∧ (Go.Mx.stepP s o).1.sz = s.sz ∧ (Go.Mx.stepP s o).1.who = s.who ∧ (Go.Mx.stepP s o).1.wt = s.wt := by
  unfold Go.Mx.stepP
  have same : s.Fit (n + 1) ∧ s.sz = s.sz ∧ s.who = s.who ∧ s.wt = s.wt := ⟨ft.mono (Nat.le_succ n), rfl, rfl, rfl⟩
  refine pif (P := fun y : AS × POp => y.1.Fit (n + 1) ∧ y.1.sz = s.sz ∧ y.1.who = s.who ∧ y.1.wt = s.wt) (fun _ => same) fun _ => pif (P := fun y : AS × POp => y.1.Fit (n + 1) ∧ y.1.sz = s.sz ∧ y.1.who = s.who ∧ y.1.wt = s.wt) (fun _ => same) fun _ => pif (P := fun y : AS × POp => y.1.Fit (n + 1) ∧ y.1.sz = s.sz ∧ y.1.who = s.who ∧ y.1.wt = s.wt) (fun _ => ft.step o.look) fun _ => ?_
  split <;> exact ft.actA o.st.req
section
variable {g : PG} {N : Nat} (G : GOk g N)
include G
theorem GOk.whoS (w : Nat) : GOk (g.whoS w) N := ⟨⟨G.fit.lg, G.fit.cs, G.fit.sz⟩, G.ok, G.tk⟩
theorem GOk.set {i : Nat} {a : GAct} (h : ActOk a) : ∀ x ∈ g.acts.set i a, ActOk x := fun x hx => by
  rcases List.mem_or_eq_of_mem_set hx with q | q
  · exact G.ok x q
  · exact q ▸ h
theorem GOk.act (i : Nat) : ActOk (g.act i) := by
  by_cases h : i < g.acts.length
  · exact G.ok _ (gact_mem h)
  · unfold PG.act
    rw [List.getElem?_eq_none (by omega)]; exact .zero
theorem GOk.stepP (i : Nat) : (stepP g.m (g.act i).lot).1.Fit (N + 1) ∧ ∃ ds r, RelP ds (stepP g.m (g.act i).lot).2 r := by
  obtain ⟨ds, r, R⟩ := (G.act i).lot
  exact ⟨(G.fit.stepPP _).1, ds, _, (R.step g.m).2⟩
theorem GOk.stepD (i : Nat) : (stepD arenaI g.m (g.act i).dq).1.Fit (N + 1) ∧ (stepD arenaI g.m (g.act i).dq).2.Ok ∧ (stepD arenaI g.m (g.act i).dq).2.most ≤ 4096 := by
  obtain ⟨a, b⟩ := stepD_ok arenaI g.m (G.act i).dq (G.act i).most
  exact ⟨(G.fit.step _).1, a, by rw [b.2.2.1]; exact (G.act i).most⟩
theorem GOk.workGo : GOk g.workGo (N + 1) := by
  unfold PG.workGo
  split
  · obtain ⟨a, b⟩ := G.stepP 0
    exact ⟨a, G.set ⟨b, (G.act 0).dq, (G.act 0).most⟩, Nat.le_succ_of_le G.tk⟩
  · obtain ⟨a, b, c⟩ := G.stepD 0
    unfold PG.dq0
    split
    · exact ⟨a, G.set ⟨(G.act 0).lot, b, c⟩, Nat.le_succ_of_le G.tk⟩
    · exact ⟨a, G.set ⟨(G.act 0).lot, b, c⟩, Nat.le_trans (took_len _ _ _) (Nat.succ_le_succ G.tk)⟩
theorem GOk.sleepGo (who : Nat) : GOk (g.sleepGo who) (N + 1) := by
  unfold PG.sleepGo
  split
  · obtain ⟨a, b, c⟩ := G.stepD who
    unfold PG.dqS
    split
    · exact ⟨a, G.set ⟨(G.act who).lot, b, c⟩, Nat.le_succ_of_le G.tk⟩
    · exact ⟨a, G.set ⟨(G.act who).lot, b, c⟩, Nat.le_trans (took_len _ _ _) (Nat.succ_le_succ G.tk)⟩
  · obtain ⟨a, b⟩ := G.stepP who
    refine ⟨a, G.set ?_, Nat.le_succ_of_le G.tk⟩
    unfold GAct.rested
    have base : ActOk { g.act who with lot := (Go.Mx.stepP g.m (g.act who).lot).2 } := ⟨b, (G.act who).dq, (G.act who).most⟩
    split
    · exact base
    split
    · exact ⟨b, (G.act who).dq, (G.act who).most⟩
    split
    · exact ⟨b, (G.act who).dq, (G.act who).most⟩
    · exact ⟨b, (G.act who).dq, (G.act who).most⟩
end
structure PlOk (P : Int) (ds : List (Den KP2)) : Prop where
  p1 : 1 ≤ P
  p8 : P ≤ 8
  len : (ds.length : Int) = P
  mo : ∀ x ∈ ds, 1 ≤ (x.2.1 : Int) ∧ (x.2.1 : Int) ≤ 4096
  bs : ∀ x ∈ ds, I64 x.1
theorem PlOk.restOk {P : Int} {ds : List (Den KP2)} (o : PlOk P ds) {who : Int} (w0 : 0 ≤ who) (w1 : who < P) : RestPOk P who ds :=
  ⟨⟨o.p1, by have := o.p8; omega, w0, w1⟩, o.len, fun i x hx _ => o.mo x (List.mem_of_getElem? hx)⟩
theorem PlOk.d0 {P : Int} {ds : List (Den KP2)} (o : PlOk P ds) : ds[0]? = some (dqAt ds 0) ∧ 1 ≤ ((dqAt ds 0).2.1 : Int) ∧ ((dqAt ds 0).2.1 : Int) ≤ 4096 := by
  have h := o.len
  have p1 := o.p1
  have hl : 0 < ds.length := by omega
  have e : ds[0]? = some (dqAt ds 0) := by
    unfold dqAt
    rw [show (0 : Int).toNat = 0 from rfl, List.getElem?_eq_getElem hl]; rfl
  exact ⟨e, o.mo _ (List.mem_of_getElem? e)⟩
theorem beg_ok {k pc base most v : Int} (hp : pc = 1 ∨ pc = 2) (m1 : 1 ≤ most) (m2 : most ≤ 4096) : (DOp.begin k pc base most v).Ok ∧ (DOp.begin k pc base most v).most ≤ 4096 := by
  refine ⟨DOp.Ok.begin hp, ?_⟩
  rw [begin_eq m1 m2]; exact m2
theorem ActOk.rest {P : Int} {ds : List (Den KP2)} (o : PlOk P ds) {who : Int} (w0 : 0 ≤ who) (w1 : who < P) {a : GAct} (A : ActOk a) : ActOk (a.rest P ds who) := by
  have R := RelP.rest (s := Sl.none) (o.restOk w0 w1) (base := 0) (by unfold I64; decide) o.bs
  obtain ⟨_, m1, m2⟩ := o.d0
  unfold GAct.rest
  split
  · exact ⟨⟨_, _, R⟩, (beg_ok (.inr rfl) m1 m2).1, (beg_ok (.inr rfl) m1 m2).2⟩
  · exact ⟨⟨_, _, R⟩, A.dq, A.most⟩
theorem i640 : I64 0 := by unfold I64; decide
theorem PlOk.right {P : Int} {ds : List (Den KP2)} (o : PlOk P ds) : RightP P 0 := ⟨o.p1, by have := o.p8; omega, by decide, o.p1⟩
theorem ActOk.todo {P : Int} {ds : List (Den KP2)} (o : PlOk P ds) {a : GAct} (A : ActOk a) (t : DTd) : ActOk (a.todo P (dqAt ds 0) t) := by
  obtain ⟨_, m1, m2⟩ := o.d0
  unfold GAct.todo
  split
  · exact ⟨A.lot, (beg_ok (.inl rfl) m1 m2).1, (beg_ok (.inl rfl) m1 m2).2⟩
  split
  · exact ⟨A.lot, (beg_ok (.inl rfl) m1 m2).1, (beg_ok (.inl rfl) m1 m2).2⟩
  · exact ⟨⟨_, _, RelP.fin o.right i640⟩, A.dq, A.most⟩
theorem GOk.begin {P : Int} {ds : List (Den KP2)} (o : PlOk P ds) {g g' : PG} {N : Nat} (G : GOk g N) (h : g.begin P (dqAt ds 0) = some g') : GOk g' N ∧ g'.acts.length = g.acts.length := by
  unfold PG.begin at h
  split at h
  · cases h
    exact ⟨⟨G.fit, G.set ⟨⟨_, _, RelP.wake o.right i640⟩, (G.act 0).dq, (G.act 0).most⟩, G.tk⟩, List.length_set⟩
  · split at h
    · cases h
    · cases h
      exact ⟨⟨G.fit, G.set ((G.act 0).todo o _), G.tk⟩, List.length_set⟩
theorem workGo_len (g : PG) : g.workGo.acts.length = g.acts.length := by
  unfold PG.workGo
  split
  · exact List.length_set
  · unfold PG.dq0
    split <;> exact List.length_set
theorem sleepGo_len (g : PG) (w : Nat) : (g.sleepGo w).acts.length = g.acts.length := by
  unfold PG.sleepGo
  split
  · unfold PG.dqS
    split <;> exact List.length_set
  · exact List.length_set
theorem GOk.up {g : PG} {N : Nat} (G : GOk g N) : GOk g (N + 1) := ⟨G.fit.mono (Nat.le_succ N), G.ok, Nat.le_succ_of_le G.tk⟩
theorem GOk.pick {P : Int} {ds : List (Den KP2)} (o : PlOk P ds) {g : PG} {N : Nat} (G : GOk g N) {who : Nat} (hw : (who : Int) < P) : GOk (g.pick P ds who) (N + 1) ∧ (g.pick P ds who).acts.length = g.acts.length := by
  have G' := G.whoS who
  unfold PG.pick
  by_cases e : who = 0
  · rw [if_pos e]
    unfold PG.work
    split
    · split
      · exact ⟨G'.up, rfl⟩
      · rename_i g' h
        obtain ⟨a, b⟩ := G'.begin o h
        exact ⟨a.workGo, (workGo_len g').trans b⟩
    · exact ⟨G'.workGo, workGo_len _⟩
  · rw [if_neg e]
    unfold PG.sleep
    split
    · exact ⟨G'.up, rfl⟩
    split
    · have G2 : GOk ((g.whoS who).put who (((g.whoS who).act who).rest P ds (who : Int))) N := ⟨G'.fit, G'.set ((G'.act who).rest o (by omega) hw), G'.tk⟩
      exact ⟨G2.sleepGo who, (sleepGo_len _ _).trans List.length_set⟩
    · exact ⟨G'.sleepGo who, sleepGo_len _ _⟩
theorem GOk.run {P : Int} {ds : List (Den KP2)} (o : PlOk P ds) : ∀ (ws : List Nat) {g : PG} {N : Nat}, GOk g N → (∀ w ∈ ws, (w : Int) < P) → GOk (g.run P ds ws) (N + ws.length) ∧ (g.run P ds ws).acts.length = g.acts.length
  | [], g, N, G, _ => ⟨G, rfl⟩
  | w :: ws, g, N, G, hw => by
    obtain ⟨a, b⟩ := G.pick o (hw w (by simp))
    obtain ⟨c, d⟩ := GOk.run o ws a (fun x hx => hw x (by simp [hx]))
    rw [show N + (w :: ws).length = N + 1 + ws.length by simp only [List.length_cons]; omega]
    exact ⟨c, d.trans b⟩
end Go.Mx

namespace Go.Mx

structure Res (h0 : Heap) where
  fp : Nat → Prop
  ok : Heap → Prop
  live : ∀ {h}, ok h → ∀ x, fp x → h x ≠ none
  fresh : ∀ {h}, ok h → ∀ x, fp x → h0 x = none
  ext : ∀ {h h' T}, ok h → Ext T h h' → (∀ x, fp x → ¬ T x) → (∀ x, T x → h0 x = none) → ok h'
def Res.obj (h0 : Heap) (b : Nat) (k : Kd) (x : Den k) : Res h0 where
  fp := (· = b)
  ok h := Obj h b k x ∧ h0 b = none
  live o y e := by subst e; exact o.1.live
  fresh o y e := by subst e; exact o.2
  ext o e n f := ⟨o.1.ext e (n b rfl), o.2⟩
def Res.new (h0 : Heap) (k : Kd) (s : Sl) (xs : List (Den k)) : Res h0 where
  fp := blkOf s
  ok h := New h0 h k s xs
  live o y e := o.own.live y e
  fresh o y e := o.new y e
  ext o e n f := o.ext e n f
structure Stage (h0 : Heap) (rs : List (Res h0)) (h : Heap) : Prop where
  le : Go.Mx.le h0 h
  ok : ∀ {i : Nat} {r : Res h0}, rs[i]? = some r → r.ok h
  ap : ∀ {i j : Nat} {r s : Res h0}, i ≠ j → rs[i]? = some r → rs[j]? = some s → ∀ x, r.fp x → ¬ s.fp x
theorem Stage.put {h0 : Heap} {rs : List (Res h0)} {h : Heap} (o : Stage h0 rs h) (i : Nat) {r : Res h0} (hi : rs[i]? = some r) {r' : Res h0} {h' : Heap} (s : Step r.fp r'.fp h h') (k : r'.ok h') : Stage h0 (rs.set i r') h' := by
  have f : ∀ x, r.fp x → h0 x = none := r.fresh (o.ok hi)
  have hl := (List.getElem?_eq_some_iff.1 hi).1
  have get : ∀ {j t}, (rs.set i r')[j]? = some t → (j = i ∧ t = r') ∨ (j ≠ i ∧ rs[j]? = some t) := fun {j t} q => by
    by_cases e : j = i
    · subst e
      rw [List.getElem?_set_self hl] at q
      cases q; exact .inl ⟨rfl, rfl⟩
    · rw [List.getElem?_set_ne (fun z => e z.symm)] at q
      exact .inr ⟨e, q⟩
  have off : ∀ {j t}, j ≠ i → rs[j]? = some t → ∀ x, t.fp x → ¬ r'.fp x := fun {j t} n q => s.off (T := t.fp) (o.ap n q hi) (t.live (o.ok q))
  refine ⟨le_ext o.le s.1 f, fun {j t} q => ?_, fun {j l t u} n q p => ?_⟩
  · rcases get q with ⟨_, rfl⟩ | ⟨e, q⟩
    · exact k
    · exact t.ext (o.ok q) s.1 (fun x a b => o.ap e q hi x a b) f
  · rcases get q with ⟨e1, rfl⟩ | ⟨e1, q'⟩
    · rcases get p with ⟨e2, rfl⟩ | ⟨e2, p⟩
      · exact absurd (e1.trans e2.symm) n
      · exact fun x a b => off e2 p x b a
    · rcases get p with ⟨e2, rfl⟩ | ⟨e2, p⟩
      · exact off e1 q'
      · exact o.ap n q' p
theorem Stage.add {h0 : Heap} {rs : List (Res h0)} {h : Heap} (o : Stage h0 rs h) {r' : Res h0} {h' : Heap} (l : Go.Mx.le h h') (n : ∀ x, r'.fp x → h x = none) (k : r'.ok h') : Stage h0 (rs ++ [r']) h' := by
  have get : ∀ {j t}, (rs ++ [r'])[j]? = some t → (j = rs.length ∧ t = r') ∨ (j < rs.length ∧ rs[j]? = some t) := fun {j t} q => by
    by_cases e : j < rs.length
    · rw [List.getElem?_append_left e] at q; exact .inr ⟨e, q⟩
    · rw [List.getElem?_append_right (by omega)] at q
      have z : j - rs.length = 0 := by
        have := (List.getElem?_eq_some_iff.1 q).1
        simp only [List.length_singleton] at this; omega
      rw [z] at q
      cases q
      exact .inl ⟨by omega, rfl⟩
  refine ⟨o.le.trans l, fun {j t} q => ?_, fun {j m t u} ne q p => ?_⟩
  · rcases get q with ⟨_, rfl⟩ | ⟨e, q⟩
    · exact k
    · exact t.ext (T := fun _ => False) (o.ok q) l.toExt (fun _ _ => id) (fun _ z => z.elim)
  · rcases get q with ⟨e1, rfl⟩ | ⟨e1, q'⟩
    · rcases get p with ⟨e2, rfl⟩ | ⟨e2, p⟩
      · exact absurd (e1.trans e2.symm) ne
      · exact fun x a b => u.live (o.ok p) x b (n x a)
    · rcases get p with ⟨e2, rfl⟩ | ⟨e2, p⟩
      · exact fun x a b => t.live (o.ok q') x a (n x b)
      · exact o.ap ne q' p
theorem Stage.nil (h : Heap) : Stage h [] h := ⟨.refl _, fun q => by simp at q, fun _ q => by simp at q⟩
theorem Stage.putObj {h0 : Heap} {rs : List (Res h0)} {h : Heap} (o : Stage h0 rs h) (i : Nat) {b : Nat} {k : Kd} {x x' : Den k} (hi : rs[i]? = some (Res.obj h0 b k x)) {h' : Heap} (e : Ext (· = b) h h') (q : Obj h' b k x') : Stage h0 (rs.set i (Res.obj h0 b k x')) h' :=
  o.put i hi (r' := Res.obj h0 b k x') ⟨e, fun _ q => .inl q⟩ ⟨q, (o.ok hi).2⟩
theorem Stage.putNew {h0 : Heap} {rs : List (Res h0)} {h : Heap} (o : Stage h0 rs h) (i : Nat) {k : Kd} {s s' : Sl} {xs xs' : List (Den k)} (hi : rs[i]? = some (Res.new h0 k s xs)) {h' : Heap} (e : Ext (blkOf s) h h') (b : ∀ x, blkOf s' x → blkOf s x ∨ h x = none) (q : New h0 h' k s' xs') : Stage h0 (rs.set i (Res.new h0 k s' xs')) h' :=
  o.put i hi (r' := Res.new h0 k s' xs') ⟨e, b⟩ q
end Go.Mx

namespace Go.Mx

abbrev KRun : Kd := .pair .sl (.pair .sl (.pair .sl (.pair .sl (.pair ki (.pair ki (.pair ki (.pair .bool (.pair .sl .nil))))))))
abbrev KGp : Kd := .pair .ptr (.pair KP2 (.pair .sl (.pair .sl (.pair .sl (.pair KRun .nil)))))
theorem spl {k kp : Kd} {y y' : Den k} {w v : Den kp} {pre post : List Value} {off : Nat} (h1 : k.cells y = pre ++ kp.cells w ++ post) (h2 : k.cells y' = pre ++ kp.cells v ++ post) (e : pre.length = off) : k.cells y' = splice (k.cells y) off (kp.cells v) := by
  rw [h1, h2, ← e]
  have := splice_mid pre (kp.cells w) post (kp.cells v) 0 (by rw [Kd.cells_len, Kd.cells_len]; omega)
  rw [Nat.add_zero] at this
  rw [this]
  unfold splice
  rw [List.take_zero, List.nil_append, Nat.zero_add, List.drop_of_length_le (by rw [Kd.cells_len, Kd.cells_len]; exact Nat.le_refl _), List.append_nil]
def tB (a : GAct) : List Value := [.bool a.halted, .bool a.steals, .bool a.wakes]
theorem ga_cells (a : GAct) : KGa.cells a.den = [.int .i64 a.busy] ++ (KPOp.cells a.lot.den ++ (KOp.cells a.dq.den ++ tB a)) := rfl
theorem gaBusy (a : GAct) : KGa.cells a.den = [] ++ ki.cells (a.busy : Int) ++ (KPOp.cells a.lot.den ++ (KOp.cells a.dq.den ++ tB a)) := rfl
theorem gaLot (a : GAct) : KGa.cells a.den = [.int .i64 a.busy] ++ KPOp.cells a.lot.den ++ (KOp.cells a.dq.den ++ tB a) := by rw [ga_cells, List.append_assoc]
def gaPre (a : GAct) : List Value := [.int .i64 a.busy] ++ KPOp.cells a.lot.den
theorem gaPre_len (a : GAct) : (gaPre a).length = 154 := by unfold gaPre; rw [List.length_append, Kd.cells_len]; rfl
theorem gaDq (a : GAct) : KGa.cells a.den = gaPre a ++ KOp.cells a.dq.den ++ tB a := by rw [ga_cells]; unfold gaPre; simp only [List.append_assoc]
def gaPre2 (a : GAct) : List Value := gaPre a ++ KOp.cells a.dq.den
theorem gaPre2_len (a : GAct) : (gaPre2 a).length = 170 := by unfold gaPre2; rw [List.length_append, Kd.cells_len, gaPre_len]; rfl
theorem gaHalt (a : GAct) : KGa.cells a.den = gaPre2 a ++ Kd.bool.cells a.halted ++ [.bool a.steals, .bool a.wakes] := by rw [gaDq, show tB a = Kd.bool.cells a.halted ++ [.bool a.steals, .bool a.wakes] from rfl]; unfold gaPre2; simp only [List.append_assoc]
theorem gaSteal (a : GAct) : KGa.cells a.den = (gaPre2 a ++ [.bool a.halted]) ++ Kd.bool.cells a.steals ++ [.bool a.wakes] := by rw [gaDq, show tB a = [.bool a.halted] ++ (Kd.bool.cells a.steals ++ [.bool a.wakes]) from rfl]; unfold gaPre2; simp only [List.append_assoc]
theorem gaWake (a : GAct) : KGa.cells a.den = (gaPre2 a ++ [.bool a.halted, .bool a.steals]) ++ Kd.bool.cells a.wakes ++ [] := by rw [gaDq, show tB a = [.bool a.halted, .bool a.steals] ++ (Kd.bool.cells a.wakes ++ []) from rfl]; unfold gaPre2; simp only [List.append_assoc]
theorem pre3 (a : GAct) (x : Value) : (gaPre2 a ++ [x]).length = 171 := by rw [List.length_append, gaPre2_len]; rfl
theorem pre4 (a : GAct) (x y : Value) : (gaPre2 a ++ [x, y]).length = 172 := by rw [List.length_append, gaPre2_len]; rfl
def Res.ra (h0 : Heap) (b : Nat) (m : AS) (S : Nat → Prop) : Res h0 where
  fp := S
  ok h := RA h0 b m S h
  live o y e := by obtain ⟨c, l, rfl, o⟩ := o; exact o.live e
  fresh o y e := by obtain ⟨c, l, rfl, o⟩ := o; exact o.fresh e
  ext o e n f := by obtain ⟨c, l, rfl, o⟩ := o; exact ⟨c, l, rfl, o.ext e n f⟩
def gmD (b : Nat) (P : Int) (dq td al tk : Sl) (w : Int) : Den KGp := (some (ptr b), ((0, (P, ())), (dq, (td, (al, ((tk, (Sl.none, (Sl.none, (Sl.none, (0, (0, (w, (false, (Sl.none, ()))))))))), ()))))))
structure GmS (h0 : Heap) (g b : Nat) (P : Int) (dq al : Sl) (ds : List (Den KP2)) (p : PG) (S : Nat → Prop) (td tk : Sl) (h : Heap) : Prop where
  tds : Arr h0 KTd td p.todos
  st : Stage h0 [Res.obj h0 g KGp (gmD b P dq td al tk p.woken), Res.ra h0 b p.m S, Res.new h0 KP2 dq ds, Res.new h0 KGa al (p.acts.map GAct.den), Res.new h0 KP2 tk p.taken] h
def GmP (h0 : Heap) (g b : Nat) (P : Int) (dq al : Sl) (ds : List (Den KP2)) (p : PG) (h : Heap) : Prop := ∃ S td tk, GmS h0 g b P dq al ds p S td tk h
section
variable {h0 : Heap} {g b : Nat} {P : Int} {dq al : Sl} {ds : List (Den KP2)} {p : PG} {S : Nat → Prop} {td tk : Sl} {h : Heap} (o : GmS h0 g b P dq al ds p S td tk h)
include o
theorem GmS.up : GmP h0 g b P dq al ds p h := ⟨S, td, tk, o⟩
theorem GmS.obj : Obj h g KGp (gmD b P dq td al tk p.woken) := (o.st.ok (i := 0) rfl).1
theorem GmS.ra : RA h0 b p.m S h := o.st.ok (i := 1) rfl
theorem GmS.dqs : New h0 h KP2 dq ds := o.st.ok (i := 2) rfl
theorem GmS.als : New h0 h KGa al (p.acts.map GAct.den) := o.st.ok (i := 3) rfl
theorem GmS.tks : New h0 h KP2 tk p.taken := o.st.ok (i := 4) rfl
theorem GmS.le : Go.Mx.le h0 h := o.st.le
theorem GmS.ldm {K : Option Addr → Prop} (hK : K (some (ptr b))) : ld .ptr h ((ptr g).add 0) K := o.obj.ld (kf := .ptr) ⟨[], _, rfl, rfl⟩ hK
theorem GmS.ldl {K : Den KP2 → Prop} (hK : K (0, (P, ()))) : ld KP2 h ((ptr g).add 1) K := o.obj.ld (kf := KP2) (y := ((0 : Int), (P, ()))) ⟨[.pointer (some (ptr b))], _, rfl, rfl⟩ hK
theorem GmS.ldd {K : Sl → Prop} (hK : K dq) : ld .sl h ((ptr g).add 3) K := o.obj.ld (kf := .sl) (y := dq) ⟨[.pointer (some (ptr b)), .int .i64 0, .int .i64 P], _, rfl, rfl⟩ hK
theorem GmS.ldt {K : Sl → Prop} (hK : K td) : ld .sl h ((ptr g).add 4) K := o.obj.ld (kf := .sl) (y := td) ⟨[.pointer (some (ptr b)), .int .i64 0, .int .i64 P, dq.val], _, rfl, rfl⟩ hK
theorem GmS.lda {K : Sl → Prop} (hK : K al) : ld .sl h ((ptr g).add 5) K := o.obj.ld (kf := .sl) (y := al) ⟨[.pointer (some (ptr b)), .int .i64 0, .int .i64 P, dq.val, td.val], _, rfl, rfl⟩ hK
theorem GmS.ldk {K : Sl → Prop} (hK : K tk) : ld .sl h (((ptr g).add 6).add 0) K := by
  rw [add_add']
  exact o.obj.ld (kf := .sl) (y := tk) ⟨[.pointer (some (ptr b)), .int .i64 0, .int .i64 P, dq.val, td.val, al.val], _, rfl, rfl⟩ hK
theorem GmS.ldw {K : Int → Prop} (hK : K p.woken) : ld ki h (((ptr g).add 6).add 6) K := by
  rw [add_add']
  exact o.obj.ld (kf := ki) (y := (p.woken : Int)) ⟨[.pointer (some (ptr b)), .int .i64 0, .int .i64 P, dq.val, td.val, al.val, tk.val, Sl.none.val, Sl.none.val, Sl.none.val, .int .i64 0, .int .i64 0], _, rfl, rfl⟩ hK
theorem GmS.arena {m' : AS} {S' : Nat → Prop} {h' : Heap} (r : RA h0 b m' S' h') (s : Step S S' h h') : GmS h0 g b P dq al ds { p with m := m' } S' td tk h' :=
  ⟨o.tds, o.st.put 1 (r := Res.ra h0 b p.m S) rfl (r' := Res.ra h0 b m' S') s r⟩
theorem GmS.stw {w : Int} {K : Heap → Prop} (hK : ∀ h', GmS h0 g b P dq al ds { p with woken := w } S td tk h' → K h') : deref (some (ptr g)) fun a => Go.Mx.st ki h ((a.add 6).add 6) w K := by
  show Go.Mx.st ki h (((ptr g).add 6).add 6) w K
  rw [add_add']
  exact o.obj.st (kf := ki) (v := (w : Int)) (x' := gmD b P dq td al tk w) rfl (by decide) rfl fun h' q e => hK h' ⟨o.tds, o.st.putObj 0 rfl e q⟩
theorem GmS.stt {td' : Sl} {ts : List DTd} (t : Arr h0 KTd td' ts) {K : Heap → Prop} (hK : ∀ h', GmS h0 g b P dq al ds { p with todos := ts } S td' tk h' → K h')   : deref (some (ptr g)) fun a => Go.Mx.st .sl h (a.add 4) td' K := by
  show Go.Mx.st .sl h ((ptr g).add 4) td' K
  exact o.obj.st (kf := .sl) (v := td') (x' := gmD b P dq td' al tk p.woken) rfl (by decide) rfl fun h' q e => hK h' ⟨t, o.st.putObj 0 rfl e q⟩
theorem GmS.take {who v : Int} (hl : p.taken.length ≤ 1000000000) {K : Heap → Prop} (hK : ∀ tk' h', GmS h0 g b P dq al ds { p with taken := p.taken ++ [(who, (v, ()))] } S td tk' h' → K h') :
    deref (some (ptr g)) fun a => Go.Mx.ld .sl h ((a.add 6).add 0) fun t => new h (([(who, (v, ()))] : List (Den KP2)).flatMap (Kd.cells KP2)) fun p8 h9 => appendM 2 16 h9 t ⟨some p8, 1, 1⟩ fun t10 h11 => deref (some (ptr g)) fun a => Go.Mx.st .sl h11 ((a.add 6).add 0) t10 K := by
  refine o.ldk (o.tks.app3 rfl rfl (by have := o.tks.len; omega) fun t h2 n2 x2 b2 => ?_)
  have s2 := o.st.putNew 4 rfl x2 b2 n2
  have ob : Obj h2 g KGp (gmD b P dq td al tk p.woken) := (s2.ok (i := 0) rfl).1
  show Go.Mx.st .sl h2 (((ptr g).add 6).add 0) t K
  rw [add_add']
  exact ob.st (kf := .sl) (v := t) (x' := gmD b P dq td al t p.woken) rfl (by decide) rfl fun h' q e => hK t h' ⟨o.tds, s2.putObj 0 rfl e q⟩
variable {who : Nat} (hw : who < p.acts.length) {a : Addr} (ha : al.a = some a)
include hw ha
theorem GmS.ldE {kp : Kd} {off : Nat} {y : Den kp} {pre post : List Value} (hp : KGa.cells (p.act who).den = pre ++ kp.cells y ++ post) (hl : pre.length = off) {K : Den kp → Prop} (hK : K y) : Go.Mx.ld kp h ((a.add (who * 173)).add off) K :=
  o.als.arr.ldPart (kp := kp) (y := y) ha (x := (p.act who).den) (by rw [List.getElem?_map, gact_get hw]; rfl) ⟨pre, post, hp, hl⟩ rfl hK
theorem GmS.stE {kp : Kd} {off : Nat} {y v : Den kp} {a' : GAct} {pre post : List Value} (hp : KGa.cells (p.act who).den = pre ++ kp.cells y ++ post) (hp' : KGa.cells a'.den = pre ++ kp.cells v ++ post) (hl : pre.length = off) (ho : off + kp.size ≤ 173) (hone : kp.flat = true) {K : Heap → Prop}
    (hK : ∀ h', GmS h0 g b P dq al ds (p.put who a') S td tk h' → K h') : deref (some (a.add (who * 173))) fun x => Go.Mx.st kp h (x.add off) v K := by
  show Go.Mx.st kp h ((a.add (who * 173)).add off) v K
  refine o.als.stPart (kp := kp) (k := KGa) (y' := a'.den) ha (by rw [List.getElem?_map, gact_get hw]; rfl) (spl hp hp' hl) ho hone rfl fun h3 n3 e3 => hK h3 ⟨o.tds, ?_⟩
  rw [← map_set] at n3
  exact o.st.putNew 3 rfl e3 (fun x q => .inl q) n3
end
end Go.Mx

namespace Go.Mx

theorem put_act {p : PG} {i : Nat} {x : GAct} (h : i < p.acts.length) : (p.put i x).act i = x := by
  have := gact_set (g := p.put i x) (l := p.acts) (i := i) (j := i) rfl h
  rw [if_pos rfl] at this
  exact this
theorem put_len {p : PG} {i : Nat} {x : GAct} : (p.put i x).acts.length = p.acts.length := List.length_set
theorem put_put {p : PG} {i : Nat} {x y : GAct} : (p.put i x).put i y = p.put i y := by
  unfold PG.put; rw [set_set']
def OpP1 (c : Den KP2 → Int → Heap → (Den KOp → Heap → Prop) → Prop) : Prop := ∀ {base most v : Int} {h : Heap} {Q : Den KOp → Heap → Prop}, Q (DOp.push base most v).den h → c (base, (most, ())) v h Q
def OpP (f : Int → Int → DOp) (c : Den KP2 → Heap → (Den KOp → Heap → Prop) → Prop) : Prop := ∀ {base most : Int} {h : Heap} {Q : Den KOp → Heap → Prop}, Q (f base most).den h → c (base, (most, ())) h Q
def TookC (c : Option Addr → Int → Int → Int → Heap → (Unit → Heap → Prop) → Prop) : Prop := ∀ {h0 : Heap} {g b : Nat} {P : Int} {dq al : Sl} {ds : List (Den KP2)} {p : PG} {S : Nat → Prop} {td tk : Sl} {h : Heap} {who code v : Int} {Q : Unit → Heap → Prop}, GmS h0 g b P dq al ds p S td tk h → p.taken.length ≤ 1000000000 →
  (∀ h', GmP h0 g b P dq al ds { p with taken := took who (code, v) p.taken } h' → Q () h') → c (some (ptr g)) who code v h Q
theorem took_spec : TookC park_game_took.M := by
  intro h0 g b P dq al ds p S td tk h who code v Q o hl hQ
  refine ⟨fun e => ?_, fun e => ?_⟩
  · have e : code = 4 := of_decide_eq_true e
    refine o.take hl fun tk' h' o' => hQ h' ?_
    unfold took
    rw [if_pos (show (code, v).1 = 4 from e)]
    exact o'.up
  · have e : ¬ code = 4 := of_decide_eq_false e
    refine hQ h ?_
    unfold took
    rw [if_neg (show ¬ (code, v).1 = 4 from e)]
    exact o.up
section
variable {c1 : Den KP2 → Int → Heap → (Den KPOp → Heap → Prop) → Prop} {c2 : Den KP2 → Int → Heap → (Den KOp → Heap → Prop) → Prop} {c3 : Den KP2 → Heap → (Den KOp → Heap → Prop) → Prop} {c4 : Den KP2 → Int → Heap → (Den KPOp → Heap → Prop) → Prop}
def BeginC (c : Option Addr → Option Addr → Heap → (Bool → Heap → Prop) → Prop) : Prop := ∀ {h0 : Heap} {g b : Nat} {P : Int} {dq al : Sl} {ds : List (Den KP2)} {p : PG} {S : Nat → Prop} {td tk : Sl} {h : Heap} {a : Addr} {Q : Bool → Heap → Prop}, GmS h0 g b P dq al ds p S td tk h → PlOk P ds → 0 < p.acts.length → al.a = some a →
  (p.begin P (dqAt ds 0) = none → Q false h) → (∀ p' h', p.begin P (dqAt ds 0) = some p' → GmP h0 g b P dq al ds p' h' → Q true h') → c (some (ptr g)) (some (a.add (0 * 173))) h Q
theorem pkbegin_spec (i1 : PBegC RightP (fun b w s => (wakeD b w s).den) c1) (i2 : OpP1 c2) (i3 : OpP DOp.pop c3) (i4 : PBegC RightP (fun b w s => (finD b w s).den) c4) : BeginC (park_game_begin.M c1 c2 c3 c4) := by
  intro h0 g b P dq al ds p S td tk h a Q o ok hw ha hF hQ
  have hr := ok.right
  refine o.ldE hw ha (kp := .bool) (gaWake _) (pre4 _ _ _) ⟨fun e => ?_, fun e => ?_⟩
  · have hb : p.begin P (dqAt ds 0) = some (p.put 0 { p.act 0 with wakes := false, busy := 2, lot := wakeD 0 P 0 }) := by unfold PG.begin; rw [if_pos e]
    refine o.ldl (i1 (fun _ => ?_) fun q => absurd hr q)
    refine o.stE hw ha (kp := .bool) (v := false) (a' := { p.act 0 with wakes := false }) (gaWake _) (gaWake _) (pre4 _ _ _) (by decide) rfl fun h1 o1 => ?_
    refine o1.stE (by rw [put_len]; exact hw) ha (kp := ki) (v := (2 : Int)) (a' := { p.act 0 with wakes := false, busy := 2 }) (by rw [put_act hw]; exact gaBusy _) (gaBusy _) rfl (by decide) rfl fun h2 o2 => ?_
    rw [put_put] at o2
    refine o2.stE (by rw [put_len]; exact hw) ha (kp := KPOp) (off := 1) (v := (wakeD 0 P 0).den) (a' := { p.act 0 with wakes := false, busy := 2, lot := wakeD 0 P 0 }) (by rw [put_act hw]; exact gaLot _) (gaLot _) rfl (by decide) rfl fun h3 o3 => ?_
    rw [put_put] at o3
    exact hQ _ h3 hb o3.up
  · have htl := o.tds.1
    have hb0 : p.begin P (dqAt ds 0) = match p.todos with | [] => none | t :: ts => some { p with todos := ts, acts := p.acts.set 0 ((p.act 0).todo P (dqAt ds 0) t) } := by unfold PG.begin; rw [if_neg (by rw [e]; decide)]; try rfl
    refine o.ldt ⟨fun z => hF ?_, fun z => ?_⟩
    · have z : (td.len : Int) = 0 := of_decide_eq_true z
      have : p.todos = [] := List.length_eq_zero_iff.1 (by omega)
      rw [hb0, this]
    · have z : ¬ (td.len : Int) = 0 := of_decide_eq_false z
      obtain ⟨t, ts, ht⟩ : ∃ t ts, p.todos = t :: ts := by
        cases e : p.todos with
        | nil => rw [e] at htl; exact absurd (show (td.len : Int) = 0 by rw [← htl]; rfl) z
        | cons t ts => exact ⟨t, ts, rfl⟩
      rw [ht] at hb0
      have hb0 : p.begin P (dqAt ds 0) = some { p with todos := ts, acts := p.acts.set 0 ((p.act 0).todo P (dqAt ds 0) t) } := hb0
      have hlt : 0 < td.len := by omega
      obtain ⟨at_, hat⟩ := o.tds.addr hlt
      refine o.ldt ⟨⟨by omega, by omega⟩, ?_⟩
      rw [hat]
      show ld KTd h (at_.add ((0 : Int).toNat * 2)) _
      refine (o.tds.le o.le).ldAt hat (i := 0) (x := t) (by rw [ht]; rfl) rfl (o.ldt ⟨⟨by omega, by omega⟩, ?_⟩)
      have htd' : Arr h0 KTd (td.cut 1 td.len 2) ts := by
        have := o.tds.suf (n := 1) (sz := 2) hlt rfl
        rw [ht] at this
        exact this
      refine o.stt htd' fun h1 o1 => ?_
      have dl : 0 < dq.len := by
        have := o.dqs.len
        have := ok.len
        have := ok.p1
        omega
      obtain ⟨ad, had⟩ := o.dqs.own.addr dl
      have ld0 : ∀ {p' : PG} {S' : Nat → Prop} {td' tk' : Sl} {h' : Heap} {K : Den KP2 → Prop}, GmS h0 g b P dq al ds p' S' td' tk' h' → K (dqAt ds 0) → ld .sl h' ((ptr g).add 3) fun t31 => (0 ≤ (0 : Int) ∧ (0 : Int) < (t31.len : Int)) ∧ deref t31.a fun a32 => ld KP2 h' (a32.add (((0 : Int) : Int).toNat * 2)) K := fun {p' S' td' tk' h' K} o' k => by
        refine o'.ldd ⟨⟨by omega, by omega⟩, ?_⟩
        rw [had]
        show ld KP2 h' (ad.add ((0 : Int).toNat * 2)) _
        exact o'.dqs.arr.ldAt had (i := 0) (x := dqAt ds 0) ok.d0.1 rfl k
      have ed : dqAt ds 0 = ((dqAt ds 0).1, ((dqAt ds 0).2.1, ())) := rfl
      refine o1.stE hw ha (kp := ki) (v := (1 : Int)) (a' := { p.act 0 with busy := 1 }) (gaBusy _) (gaBusy _) rfl (by decide) rfl fun h2 o2 => ⟨fun k => ?_, fun k => ⟨fun k2 => ?_, fun k2 => ?_⟩⟩
      · have k : (t.1 : Int) = 0 := of_decide_eq_true k
        refine ld0 o2 (i2 (base := (dqAt ds 0).1) (most := (dqAt ds 0).2.1) ?_)
        refine o2.stE (by rw [put_len]; exact hw) ha (kp := KOp) (v := (DOp.push (dqAt ds 0).1 (dqAt ds 0).2.1 t.2.1).den) (a' := { p.act 0 with busy := 1, dq := DOp.push (dqAt ds 0).1 (dqAt ds 0).2.1 t.2.1 }) (by rw [put_act (show 0 < ({ p with todos := ts } : PG).acts.length from hw)]; exact gaDq _) (gaDq _) (gaPre_len _) (by decide) rfl fun h3 o3 => ?_
        rw [put_put] at o3
        refine hQ _ h3 hb0 ?_
        unfold GAct.todo
        rw [if_pos k]
        exact o3.up
      · have k : ¬ (t.1 : Int) = 0 := of_decide_eq_false k
        have k2 : (t.1 : Int) = 1 := of_decide_eq_true k2
        refine ld0 o2 (i3 (base := (dqAt ds 0).1) (most := (dqAt ds 0).2.1) ?_)
        refine o2.stE (by rw [put_len]; exact hw) ha (kp := KOp) (v := (DOp.pop (dqAt ds 0).1 (dqAt ds 0).2.1).den) (a' := { p.act 0 with busy := 1, dq := DOp.pop (dqAt ds 0).1 (dqAt ds 0).2.1 }) (by rw [put_act (show 0 < ({ p with todos := ts } : PG).acts.length from hw)]; exact gaDq _) (gaDq _) (gaPre_len _) (by decide) rfl fun h3 o3 => ?_
        rw [put_put] at o3
        refine hQ _ h3 hb0 ?_
        unfold GAct.todo
        rw [if_neg k, if_pos k2]
        exact o3.up
      · have k : ¬ (t.1 : Int) = 0 := of_decide_eq_false k
        have k2 : ¬ (t.1 : Int) = 1 := of_decide_eq_false k2
        refine o2.ldl (i4 (fun _ => ?_) fun q => absurd hr q)
        refine o2.stE (by rw [put_len]; exact hw) ha (kp := ki) (v := (2 : Int)) (a' := { p.act 0 with busy := 2 }) (by rw [put_act (show 0 < ({ p with todos := ts } : PG).acts.length from hw)]; exact gaBusy _) (gaBusy _) rfl (by decide) rfl fun h3 o3 => ?_
        rw [put_put] at o3
        refine o3.stE (by rw [put_len]; exact hw) ha (kp := KPOp) (off := 1) (v := (finD 0 P 0).den) (a' := { p.act 0 with busy := 2, lot := finD 0 P 0 }) (by rw [put_act (show 0 < ({ p with todos := ts } : PG).acts.length from hw)]; exact gaLot _) (gaLot _) rfl (by decide) rfl fun h4 o4 => ?_
        rw [put_put] at o4
        refine hQ _ h4 hb0 ?_
        unfold GAct.todo
        rw [if_neg k, if_neg k2]
        exact o4.up
end

section
variable {c0 : Option Addr → Option Addr → Heap → (Bool → Heap → Prop) → Prop} {c1 : Value → Den KPOp → Heap → (Den KPOp → Heap → Prop) → Prop} {c2 : Den KPOp → Heap → (Den KP2 → Heap → Prop) → Prop} {c3 : Value → Den KOp → Heap → (Den KOp → Heap → Prop) → Prop} {c4 : Den KOp → Heap → (Den KP2 → Heap → Prop) → Prop} {c5 : Option Addr → Int → Int → Int → Heap → (Unit → Heap → Prop) → Prop}
variable (i1 : StepPC 25 c1) (i2 : PAnsC c2) (i3 : StepM 25 c3) (i4 : AnswM c4) (i5 : TookC c5)
include i1 i2 i3 i4 i5
theorem workGo_spec {h0 : Heap} {g b : Nat} {P : Int} {dq al : Sl} {ds : List (Den KP2)} {p : PG} {S : Nat → Prop} {td tk : Sl} {h : Heap} {a : Addr} {N : Nat} {Q : Unit → Heap → Prop} (o : GmS h0 g b P dq al ds p S td tk h) (G : GOk p N) (hN : N ≤ 100000000) (hw : 0 < p.acts.length) (ha : al.a = some a)
    (hQ : ∀ h', GmP h0 g b P dq al ds p.workGo h' → Q () h') : park_game_worker.j2 c1 c2 c3 c4 c5 (some (ptr g)) (some (a.add (0 * 173))) Q () h := by
  refine o.ldE hw ha (kp := ki) (gaBusy _) rfl ⟨fun e => ?_, fun e => ?_⟩
  · have e : (p.act 0).busy = 2 := of_decide_eq_true e
    have hgo : p.workGo = p.lot0 (stepP p.m (p.act 0).lot) := by unfold PG.workGo; rw [if_pos e]
    obtain ⟨ds', r', R⟩ := (G.act 0).lot
    refine o.ldm (o.ldE hw ha (kp := KPOp) (gaLot _) rfl (i1 (o := (p.act 0).lot) o.ra G.fit (by omega) R.safe fun S' h1 r1 s1 => ?_))
    have o1 := o.arena r1 s1
    rw [hgo] at hQ
    generalize stepP p.m (p.act 0).lot = r at *
    obtain ⟨m', x⟩ := r
    dsimp only at o1 hQ ⊢
    refine o1.stE hw ha (kp := KPOp) (off := 1) (v := x.den) (a' := { p.act 0 with lot := x }) (gaLot _) (gaLot _) rfl (by decide) rfl fun h2 o2 => ?_
    refine o2.ldE (by rw [put_len]; exact hw) ha (kp := KPOp) (y := x.den) (by rw [put_act (show 0 < ({ p with m := m' } : PG).acts.length from hw)]; exact gaLot _) rfl ?_
    refine i2 (o := x) ?_
    have wk : ∀ {a2 : GAct} {h3 : Heap} {S3 : Nat → Prop}, a2 = { p.act 0 with lot := x, busy := if x.answer.1 ≠ 0 then 0 else (p.act 0).busy } → GmS h0 g b P dq al ds (({ p with m := m' } : PG).put 0 a2) S3 td tk h3 → park_game_worker.j1 (some (ptr g)) Q (x.answer.1, (x.answer.2, ())) () h3 := fun {a2 h3 S3} e3 o3 => by
      subst e3
      refine ⟨fun k => ?_, fun k => hQ h3 ?_⟩
      · have k : x.answer.1 = 18 := of_decide_eq_true k
        refine o3.ldw (o3.stw fun h4 o4 => hQ h4 ?_)
        unfold PG.lot0
        dsimp only
        rw [if_pos k]
        exact o4.up
      · have k : ¬ x.answer.1 = 18 := of_decide_eq_false k
        unfold PG.lot0
        dsimp only
        rw [if_neg k]
        exact o3.up
    refine ⟨fun k => ?_, fun k => ?_⟩
    · have k : x.answer.1 ≠ 0 := of_decide_eq_true k
      refine o2.stE (by rw [put_len]; exact hw) ha (kp := ki) (v := (0 : Int)) (a' := { p.act 0 with lot := x, busy := 0 }) (by rw [put_act (show 0 < ({ p with m := m' } : PG).acts.length from hw)]; exact gaBusy _) (gaBusy _) rfl (by decide) rfl fun h3 o3 => ?_
      rw [put_put] at o3
      exact wk (by rw [if_pos k]) o3
    · have k : ¬ x.answer.1 ≠ 0 := of_decide_eq_false k
      exact wk (by rw [if_neg k]) o2
  · have e : ¬ (p.act 0).busy = 2 := of_decide_eq_false e
    have hgo : p.workGo = p.dq0 (stepD arenaI p.m (p.act 0).dq) := by unfold PG.workGo; rw [if_neg e]
    refine o.ldm (o.ldE hw ha (kp := KOp) (gaDq _) (gaPre_len _) (i3 (x := (p.act 0).dq) o.ra (Nat.le_trans G.fit.lg (by omega)) G.fit.cs G.fit.sz (G.act 0).dq fun S' h1 r1 s1 => ?_))
    have o1 := o.arena r1 s1
    rw [hgo] at hQ
    generalize stepD arenaI p.m (p.act 0).dq = r at *
    obtain ⟨m', x⟩ := r
    dsimp only at o1 hQ ⊢
    unfold PG.dq0 at hQ
    dsimp only at hQ
    refine o1.stE hw ha (kp := KOp) (v := x.den) (a' := { p.act 0 with dq := x }) (gaDq _) (gaDq _) (gaPre_len _) (by decide) rfl fun h2 o2 => ?_
    refine o2.ldE (by rw [put_len]; exact hw) ha (kp := KOp) (y := x.den) (by rw [put_act (show 0 < ({ p with m := m' } : PG).acts.length from hw)]; exact gaDq _) (gaPre_len _) ?_
    refine i4 (o := x) ⟨fun k => hQ h2 ?_, fun k => ?_⟩
    · have k : x.answer.1 = 0 := of_decide_eq_true k
      rw [if_pos k]
      exact o2.up
    · have k : ¬ x.answer.1 = 0 := of_decide_eq_false k
      rw [if_neg k] at hQ
      refine o2.stE (by rw [put_len]; exact hw) ha (kp := ki) (v := (0 : Int)) (a' := { p.act 0 with dq := x, busy := 0 }) (by rw [put_act (show 0 < ({ p with m := m' } : PG).acts.length from hw)]; exact gaBusy _) (gaBusy _) rfl (by decide) rfl fun h3 o3 => ?_
      rw [put_put] at o3
      refine o3.stE (by rw [put_len]; exact hw) ha (kp := .bool) (v := decide (x.answer.1 = 2)) (a' := { p.act 0 with dq := x, busy := 0, wakes := decide (x.answer.1 = 2) }) (by rw [put_act (show 0 < ({ p with m := m' } : PG).acts.length from hw)]; exact gaWake _) (gaWake _) (pre4 _ _ _) (by decide) rfl fun h4 o4 => ?_
      rw [put_put] at o4
      exact i5 o4 (Nat.le_trans G.tk (by omega)) fun h5 o5 => hQ h5 o5
theorem worker_spec (i0 : BeginC c0) : ∀ {h0 : Heap} {g b : Nat} {P : Int} {dq al : Sl} {ds : List (Den KP2)} {p : PG} {S : Nat → Prop} {td tk : Sl} {h : Heap} {a : Addr} {N : Nat} {Q : Unit → Heap → Prop}, GmS h0 g b P dq al ds p S td tk h → PlOk P ds → GOk p N → N ≤ 100000000 → 0 < p.acts.length → al.a = some a →
    (∀ h', GmP h0 g b P dq al ds (p.work P (dqAt ds 0)) h' → Q () h') → park_game_worker.M c0 c1 c2 c3 c4 c5 (some (ptr g)) (some (a.add (0 * 173))) h Q := by
  intro h0 g b P dq al ds p S td tk h a N Q o ok G hN hw ha hQ
  unfold PG.work at hQ
  refine o.ldE hw ha (kp := ki) (gaBusy _) rfl ⟨fun e => ?_, fun e => ⟨fun q => (by cases q), fun _ => ?_⟩⟩
  · have e : (p.act 0).busy = 0 := of_decide_eq_true e
    rw [if_pos e] at hQ
    refine i0 o ok hw ha (fun hb => ⟨fun _ => hQ h ?_, fun q => (by cases q)⟩) fun p' h' hb o' => ⟨fun q => (by cases q), fun _ => ?_⟩
    · rw [hb]; exact o.up
    · rw [hb] at hQ
      obtain ⟨G', l'⟩ := G.begin ok hb
      obtain ⟨S', td', tk', o'⟩ := o'
      exact workGo_spec i1 i2 i3 i4 i5 o' G' hN (by omega) ha hQ
  · have e : ¬ (p.act 0).busy = 0 := of_decide_eq_false e
    rw [if_neg e] at hQ
    exact workGo_spec i1 i2 i3 i4 i5 o G hN hw ha hQ
end
section
variable {c0 : Den KP2 → Int → Sl → Heap → (Den KPOp → Heap → Prop) → Prop} {c1 : Den KP2 → Heap → (Den KOp → Heap → Prop) → Prop} {c3 : Value → Den KOp → Heap → (Den KOp → Heap → Prop) → Prop} {c4 : Den KOp → Heap → (Den KP2 → Heap → Prop) → Prop} {c5 : Option Addr → Int → Int → Int → Heap → (Unit → Heap → Prop) → Prop} {c6 : Value → Den KPOp → Heap → (Den KPOp → Heap → Prop) → Prop} {c7 : Den KPOp → Heap → (Den KP2 → Heap → Prop) → Prop}
variable (i3 : StepM 25 c3) (i4 : AnswM c4) (i5 : TookC c5) (i6 : StepPC 25 c6) (i7 : PAnsC c7)
include i3 i4 i5 i6 i7
theorem sleepGo_spec {h0 : Heap} {g b : Nat} {P : Int} {dq al : Sl} {ds : List (Den KP2)} {p : PG} {S : Nat → Prop} {td tk : Sl} {h : Heap} {a : Addr} {N who : Nat} {Q : Unit → Heap → Prop} (o : GmS h0 g b P dq al ds p S td tk h) (G : GOk p N) (hN : N ≤ 100000000) (hw : who < p.acts.length) (ha : al.a = some a)
    (hQ : ∀ h', GmP h0 g b P dq al ds (p.sleepGo who) h' → Q () h') : park_game_sleeper.j2 c3 c4 c5 c6 c7 (some (ptr g)) (some (a.add (who * 173))) (who : Int) Q () h := by
  refine o.ldE hw ha (kp := ki) (gaBusy _) rfl ⟨fun e => ?_, fun e => ?_⟩
  · have e : (p.act who).busy = 1 := of_decide_eq_true e
    have hgo : p.sleepGo who = p.dqS who (stepD arenaI p.m (p.act who).dq) := by unfold PG.sleepGo; rw [if_pos e]
    refine o.ldm (o.ldE hw ha (kp := KOp) (gaDq _) (gaPre_len _) (i3 (x := (p.act who).dq) o.ra (Nat.le_trans G.fit.lg (by omega)) G.fit.cs G.fit.sz (G.act who).dq fun S' h1 r1 s1 => ?_))
    have o1 := o.arena r1 s1
    rw [hgo] at hQ
    generalize stepD arenaI p.m (p.act who).dq = r at *
    obtain ⟨m', x⟩ := r
    dsimp only at o1 hQ ⊢
    unfold PG.dqS at hQ
    dsimp only at hQ
    refine o1.stE hw ha (kp := KOp) (v := x.den) (a' := { p.act who with dq := x }) (gaDq _) (gaDq _) (gaPre_len _) (by decide) rfl fun h2 o2 => ?_
    refine o2.ldE (by rw [put_len]; exact hw) ha (kp := KOp) (y := x.den) (by rw [put_act (show who < ({ p with m := m' } : PG).acts.length from hw)]; exact gaDq _) (gaPre_len _) ?_
    refine i4 (o := x) ⟨fun k => ?_, fun k => hQ h2 ?_⟩
    · have k : ¬ x.answer.1 = 0 := of_decide_eq_true k
      rw [if_neg k] at hQ
      refine o2.stE (by rw [put_len]; exact hw) ha (kp := ki) (v := (0 : Int)) (a' := { p.act who with dq := x, busy := 0 }) (by rw [put_act (show who < ({ p with m := m' } : PG).acts.length from hw)]; exact gaBusy _) (gaBusy _) rfl (by decide) rfl fun h3 o3 => ?_
      rw [put_put] at o3
      refine o3.stE (by rw [put_len]; exact hw) ha (kp := .bool) (v := false) (a' := { p.act who with dq := x, busy := 0, steals := false }) (by rw [put_act (show who < ({ p with m := m' } : PG).acts.length from hw)]; exact gaSteal _) (gaSteal _) (pre3 _ _) (by decide) rfl fun h4 o4 => ?_
      rw [put_put] at o4
      exact i5 o4 (Nat.le_trans G.tk (by omega)) fun h5 o5 => hQ h5 o5
    · have k : x.answer.1 = 0 := Decidable.not_not.1 (of_decide_eq_false k)
      rw [if_pos k]
      exact o2.up
  · have e : ¬ (p.act who).busy = 1 := of_decide_eq_false e
    have hgo : p.sleepGo who = p.lotS who (stepP p.m (p.act who).lot) := by unfold PG.sleepGo; rw [if_neg e]
    obtain ⟨ds', r', R⟩ := (G.act who).lot
    refine o.ldm (o.ldE hw ha (kp := KPOp) (gaLot _) rfl (i6 (o := (p.act who).lot) o.ra G.fit (by omega) R.safe fun S' h1 r1 s1 => ?_))
    have o1 := o.arena r1 s1
    rw [hgo] at hQ
    generalize stepP p.m (p.act who).lot = r at *
    obtain ⟨m', x⟩ := r
    dsimp only at o1 hQ ⊢
    unfold PG.lotS at hQ
    dsimp only at hQ
    unfold GAct.rested at hQ
    refine o1.stE hw ha (kp := KPOp) (off := 1) (v := x.den) (a' := { p.act who with lot := x }) (gaLot _) (gaLot _) rfl (by decide) rfl fun h2 o2 => ?_
    refine o2.ldE (by rw [put_len]; exact hw) ha (kp := KPOp) (y := x.den) (by rw [put_act (show who < ({ p with m := m' } : PG).acts.length from hw)]; exact gaLot _) rfl ?_
    have fin : ∀ {a2 : GAct} {h3 : Heap} {S3 : Nat → Prop} {td3 tk3 : Sl}, GmS h0 g b P dq al ds (({ p with m := m' } : PG).put who a2) S3 td3 tk3 h3 → (∀ h', GmP h0 g b P dq al ds (({ p with m := m' } : PG).put who { a2 with busy := 0 }) h' → Q () h') → park_game_sleeper.j1 (some (a.add (who * 173))) Q () h3 := fun {a2 h3 S3 td3 tk3} o3 hq => by
      refine o3.stE (by rw [put_len]; exact hw) ha (kp := ki) (v := (0 : Int)) (a' := { a2 with busy := 0 }) (by rw [put_act (show who < ({ p with m := m' } : PG).acts.length from hw)]; exact gaBusy _) (gaBusy _) rfl (by decide) rfl fun h4 o4 => ?_
      rw [put_put] at o4
      exact hq h4 o4.up
    refine i7 (o := x) ⟨fun k => hQ h2 ?_, fun k => ⟨fun k2 => ?_, fun k2 => ⟨fun k3 => ?_, fun k3 => ?_⟩⟩⟩
    · have k : x.answer.1 = 0 := of_decide_eq_true k
      rw [if_pos k]
      exact o2.up
    · have k : ¬ x.answer.1 = 0 := of_decide_eq_false k
      have k2 : x.answer.1 = 17 := of_decide_eq_true k2
      rw [if_neg k, if_pos k2] at hQ
      refine o2.stE (by rw [put_len]; exact hw) ha (kp := .bool) (v := true) (a' := { p.act who with lot := x, halted := true }) (by rw [put_act (show who < ({ p with m := m' } : PG).acts.length from hw)]; exact gaHalt _) (gaHalt _) (gaPre2_len _) (by decide) rfl fun h3 o3 => ?_
      rw [put_put] at o3
      exact fin o3 fun h' q => hQ h' q
    · have k : ¬ x.answer.1 = 0 := of_decide_eq_false k
      have k2 : ¬ x.answer.1 = 17 := of_decide_eq_false k2
      have k3 : x.answer.1 = 16 := of_decide_eq_true k3
      rw [if_neg k, if_neg k2, if_pos k3] at hQ
      refine o2.stE (by rw [put_len]; exact hw) ha (kp := .bool) (v := true) (a' := { p.act who with lot := x, steals := true }) (by rw [put_act (show who < ({ p with m := m' } : PG).acts.length from hw)]; exact gaSteal _) (gaSteal _) (pre3 _ _) (by decide) rfl fun h3 o3 => ?_
      rw [put_put] at o3
      exact fin o3 fun h' q => hQ h' q
    · have k : ¬ x.answer.1 = 0 := of_decide_eq_false k
      have k2 : ¬ x.answer.1 = 17 := of_decide_eq_false k2
      have k3 : ¬ x.answer.1 = 16 := of_decide_eq_false k3
      rw [if_neg k, if_neg k2, if_neg k3] at hQ
      exact fin o2 fun h' q => hQ h' q
theorem sleeper_spec (i0 : PRestC c0) (i1 : OpP DOp.steal c1) : ∀ {h0 : Heap} {g b : Nat} {P : Int} {dq al : Sl} {ds : List (Den KP2)} {p : PG} {S : Nat → Prop} {td tk : Sl} {h : Heap} {a : Addr} {N who : Nat} {Q : Unit → Heap → Prop}, GmS h0 g b P dq al ds p S td tk h → PlOk P ds → GOk p N → N ≤ 100000000 → (who : Int) < P → who < p.acts.length → al.a = some a →
    (∀ h', GmP h0 g b P dq al ds (p.sleep P ds who) h' → Q () h') → park_game_sleeper.M c0 c1 c3 c4 c5 c6 c7 (some (ptr g)) (some (a.add (who * 173))) (who : Int) h Q := by
  intro h0 g b P dq al ds p S td tk h a N who Q o ok G hN hP hw ha hQ
  unfold PG.sleep at hQ
  refine o.ldE hw ha (kp := .bool) (gaHalt _) (gaPre2_len _) ⟨fun e => hQ h ?_, fun e => ?_⟩
  · have e : (p.act who).halted = true := e
    rw [if_pos e]; exact o.up
  have e : (p.act who).halted = false := e
  rw [if_neg (by rw [e]; decide)] at hQ
  refine o.ldE hw ha (kp := ki) (gaBusy _) rfl ⟨fun z => ?_, fun z => ?_⟩
  · have z : (p.act who).busy = 0 := of_decide_eq_true z
    rw [if_pos z] at hQ
    have rk := ok.restOk (who := (who : Int)) (by omega) hP
    have G2 : ∀ {S2 : Nat → Prop}, GOk (p.put who ((p.act who).rest P ds (who : Int))) N := fun {_} => ⟨G.fit, G.set ((G.act who).rest ok (by omega) hP), G.tk⟩
    refine o.ldl (o.ldd (i0 o.dqs.arr (fun _ => ?_) fun q => absurd rk q))
    refine o.stE hw ha (kp := ki) (v := (2 : Int)) (a' := { p.act who with busy := 2 }) (gaBusy _) (gaBusy _) rfl (by decide) rfl fun h1 o1 => ?_
    refine o1.stE (by rw [put_len]; exact hw) ha (kp := KPOp) (off := 1) (v := (restD 0 P (who : Int) ds).den) (a' := { p.act who with busy := 2, lot := restD 0 P (who : Int) ds }) (by rw [put_act hw]; exact gaLot _) (gaLot _) rfl (by decide) rfl fun h2 o2 => ?_
    rw [put_put] at o2
    refine o2.ldE (by rw [put_len]; exact hw) ha (kp := .bool) (y := (p.act who).steals) (by rw [put_act hw]; exact gaSteal _) (pre3 _ _) ⟨fun s => ?_, fun s => ?_⟩
    · have s : (p.act who).steals = true := s
      have er : (p.act who).rest P ds (who : Int) = { p.act who with busy := 1, lot := restD 0 P (who : Int) ds, dq := DOp.steal (dqAt ds 0).1 (dqAt ds 0).2.1 } := by unfold GAct.rest; rw [if_pos s]
      have dl : 0 < dq.len := by
        have := o.dqs.len
        have := ok.len
        have := ok.p1
        omega
      obtain ⟨ad, had⟩ := o.dqs.own.addr dl
      refine o2.ldd ⟨⟨by omega, by omega⟩, ?_⟩
      rw [had]
      show ld KP2 h2 (ad.add ((0 : Int).toNat * 2)) _
      refine o2.dqs.arr.ldAt had (i := 0) (x := dqAt ds 0) ok.d0.1 rfl ?_
      refine i1 (base := (dqAt ds 0).1) (most := (dqAt ds 0).2.1) ?_
      refine o2.stE (by rw [put_len]; exact hw) ha (kp := ki) (v := (1 : Int)) (a' := { p.act who with busy := 1, lot := restD 0 P (who : Int) ds }) (by rw [put_act hw]; exact gaBusy _) (gaBusy _) rfl (by decide) rfl fun h3 o3 => ?_
      rw [put_put] at o3
      refine o3.stE (by rw [put_len]; exact hw) ha (kp := KOp) (v := (DOp.steal (dqAt ds 0).1 (dqAt ds 0).2.1).den) (a' := { p.act who with busy := 1, lot := restD 0 P (who : Int) ds, dq := DOp.steal (dqAt ds 0).1 (dqAt ds 0).2.1 }) (by rw [put_act hw]; exact gaDq _) (gaDq _) (gaPre_len _) (by decide) rfl fun h4 o4 => ?_
      rw [put_put, ← er] at o4
      exact sleepGo_spec i3 i4 i5 i6 i7 o4 (G2 (S2 := S)) hN (by rw [put_len]; exact hw) ha hQ
    · have s : (p.act who).steals = false := s
      have er : (p.act who).rest P ds (who : Int) = { p.act who with busy := 2, lot := restD 0 P (who : Int) ds } := by unfold GAct.rest; rw [if_neg (by rw [s]; decide)]
      rw [← er] at o2
      exact sleepGo_spec i3 i4 i5 i6 i7 o2 (G2 (S2 := S)) hN (by rw [put_len]; exact hw) ha hQ
  · have z : ¬ (p.act who).busy = 0 := of_decide_eq_false z
    rw [if_neg z] at hQ
    exact sleepGo_spec i3 i4 i5 i6 i7 o G hN hw ha hQ
end
end Go.Mx

namespace Go.Mx

theorem Stage.appT {h0 : Heap} {rs : List (Res h0)} {h : Heap} {g : Nat} {k : Kd} (o : Stage h0 rs h) (i : Nat) {s : Sl} {xs : List Int} (hi : rs[i]? = some (Res.new h0 ki s xs)) (i0 : i ≠ 0) {x : Den k} (ho : rs[0]? = some (Res.obj h0 g k x)) {off : Nat} {x' : Sl → Den k}
    (hx : ∀ t, k.cells (x' t) = splice (k.cells x) off (Kd.cells .sl t)) (hof : off + 1 ≤ k.size) (hl : xs.length ≤ 1000000000) {v : Int} {K : Heap → Prop} (hK : ∀ t h', Stage h0 ((rs.set i (Res.new h0 ki t (xs ++ [v]))).set 0 (Res.obj h0 g k (x' t))) h' → K h') :
    Go.Mx.new h (([v] : List (Den ki)).flatMap (Kd.cells ki)) fun p h9 => appendM 1 8 h9 s ⟨some p, 1, 1⟩ fun t h11 => Go.Mx.st .sl h11 ((ptr g).add off) t K := by
  have n : New h0 h ki s xs := o.ok hi
  refine n.app3 rfl rfl (by have := n.len; omega) fun t h2 n2 x2 b2 => ?_
  have s2 := o.putNew i hi x2 b2 n2
  have e0 : (rs.set i (Res.new h0 ki t (xs ++ [v])))[0]? = some (Res.obj h0 g k x) := by rw [List.getElem?_set_ne i0]; exact ho
  have ob : Obj h2 g k x := (s2.ok e0).1
  exact ob.st (kf := .sl) (v := t) (x' := x' t) (hx t) hof rfl fun h' q e => hK t h' (s2.putObj 0 e0 e q)
def tD (b : Nat) (P : Int) (dq td al tk lf st fl : Sl) (sl dn wk : Int) (bt : Bool) (lg : Sl) : Den KGp := (some (ptr b), ((0, (P, ())), (dq, (td, (al, ((tk, (lf, (st, (fl, (sl, (dn, (wk, (bt, (lg, ()))))))))), ()))))))
structure ToldOk (cs : List Int) (D P : Int) : Prop where
  p1 : 1 ≤ P
  p8 : P ≤ 8
  pl : 2 + P ≤ D
  dl : D + 2 < (cs.length : Int)
  sz : cs.length ≤ 1048576
  t0 : 0 ≤ gt cs D
  bn : gt cs (D + 1) ≤ 1000000000
  a0 : 0 ≤ gt cs (D + 2)
  c1 : 1 ≤ gt cs (gt cs (D + 2))
  al : gt cs (D + 2) + gt cs (gt cs (D + 2)) < (cs.length : Int)
def leftAt (cs : List Int) (D i : Int) : Int := gt cs (gt cs (D + 2) + 1 + i % gt cs (gt cs (D + 2)))
def leftOf (cs : List Int) (D : Int) : List Int := (List.range (gt cs (D + 1) - gt cs D).toNat).map fun (j : Nat) => leftAt cs D (gt cs D + (j : Int))
def flagsOf (cs : List Int) (n : Nat) : List Int := (List.range n).map fun (i : Nat) => gt cs (2 + (i : Int))
def statesOf (l : List GAct) : List Int := l.map GAct.state
theorem tD_log {h : Heap} {g b : Nat} {P : Int} {dq td al tk lf st fl lg : Sl} {sl dn wk : Int} {bt : Bool} (ob : Obj h g KGp (tD b P dq td al tk lf st fl sl dn wk bt Sl.none)) {K : Heap → Prop} (hK : ∀ h', Obj h' g KGp (tD b P dq td al tk lf st fl sl dn wk bt lg) → Ext (· = g) h h' → K h') : Go.Mx.st .sl h (((ptr g).add 6).add 8) lg K := by
  rw [add_add']
  have e : ∀ lg, KGp.cells (tD b P dq td al tk lf st fl sl dn wk bt lg) = [.pointer (some (ptr b)), .int .i64 0, .int .i64 P, dq.val, td.val, al.val, tk.val, lf.val, st.val, fl.val, .int .i64 sl, .int .i64 dn, .int .i64 wk, .bool bt] ++ Kd.cells .sl lg ++ [] := fun _ => rfl
  exact ob.st (kf := .sl) (off := 14) (v := lg) (x' := tD b P dq td al tk lf st fl sl dn wk bt lg) (spl (e _) (e _) rfl) (by decide) rfl hK
structure TS (h0 : Heap) (g b : Nat) (P : Int) (dq al : Sl) (ds : List (Den KP2)) (p : PG) (S : Nat → Prop) (td tk r5 lf st fl : Sl) (L ST F : List Int) (sl dn : Int) (bt : Bool) (h : Heap) : Prop where
  st : Stage h0 [Res.obj h0 g KGp (tD b P dq td al tk lf st fl sl dn p.woken bt Sl.none), Res.ra h0 b p.m S, Res.new h0 KP2 dq ds, Res.new h0 KGa al (p.acts.map GAct.den), Res.new h0 KP2 tk p.taken, Res.new h0 ki r5 p.m.cs, Res.new h0 ki lf L, Res.new h0 ki st ST, Res.new h0 ki fl F] h
section
variable {h0 : Heap} {g b : Nat} {P : Int} {dq al : Sl} {ds : List (Den KP2)} {p : PG} {S : Nat → Prop} {td tk r5 lf st fl : Sl} {L ST F : List Int} {sl dn : Int} {bt : Bool} {h : Heap} (o : TS h0 g b P dq al ds p S td tk r5 lf st fl L ST F sl dn bt h)
include o
theorem TS.obj : Obj h g KGp (tD b P dq td al tk lf st fl sl dn p.woken bt Sl.none) := (o.st.ok (i := 0) rfl).1
theorem TS.ra : RA h0 b p.m S h := o.st.ok (i := 1) rfl
theorem TS.dqs : New h0 h KP2 dq ds := o.st.ok (i := 2) rfl
theorem TS.als : New h0 h KGa al (p.acts.map GAct.den) := o.st.ok (i := 3) rfl
theorem TS.cel : New h0 h ki r5 p.m.cs := o.st.ok (i := 5) rfl
theorem TS.ldm {K : Option Addr → Prop} (hK : K (some (ptr b))) : ld .ptr h ((ptr g).add 0) K := o.obj.ld (kf := .ptr) ⟨[], _, rfl, rfl⟩ hK
theorem TS.ldb {K : Int → Prop} (hK : K 0) : ld ki h (((ptr g).add 1).add 0) K := by
  rw [add_add']
  exact o.obj.ld (kf := ki) (y := (0 : Int)) ⟨[.pointer (some (ptr b))], _, rfl, rfl⟩ hK
theorem TS.ldd {K : Sl → Prop} (hK : K dq) : ld .sl h ((ptr g).add 3) K := o.obj.ld (kf := .sl) (y := dq) ⟨[.pointer (some (ptr b)), .int .i64 0, .int .i64 P], _, rfl, rfl⟩ hK
theorem TS.lda {K : Sl → Prop} (hK : K al) : ld .sl h ((ptr g).add 5) K := o.obj.ld (kf := .sl) (y := al) ⟨[.pointer (some (ptr b)), .int .i64 0, .int .i64 P, dq.val, td.val], _, rfl, rfl⟩ hK
theorem TS.lpart : PartAt KGp .sl (6 + 1) (tD b P dq td al tk lf st fl sl dn p.woken bt Sl.none) lf := ⟨[.pointer (some (ptr b)), .int .i64 0, .int .i64 P, dq.val, td.val, al.val, tk.val], _, rfl, rfl⟩
theorem TS.ldL {K : Sl → Prop} (hK : K lf) : ld .sl h (((ptr g).add 6).add 1) K := by
  rw [add_add']
  exact o.obj.ld (kf := .sl) (y := lf) o.lpart hK
theorem TS.seesL : sees h (some (((ptr g).add 6).add 1)) .sl lf := by
  rw [add_add']
  exact o.obj.sees (kf := .sl) (y := lf) o.lpart
theorem TS.ldS {K : Sl → Prop} (hK : K st) : ld .sl h (((ptr g).add 6).add 2) K := by
  rw [add_add']
  exact o.obj.ld (kf := .sl) (y := st) ⟨[.pointer (some (ptr b)), .int .i64 0, .int .i64 P, dq.val, td.val, al.val, tk.val, lf.val], _, rfl, rfl⟩ hK
theorem TS.ldF {K : Sl → Prop} (hK : K fl) : ld .sl h (((ptr g).add 6).add 3) K := by
  rw [add_add']
  exact o.obj.ld (kf := .sl) (y := fl) ⟨[.pointer (some (ptr b)), .int .i64 0, .int .i64 P, dq.val, td.val, al.val, tk.val, lf.val, st.val], _, rfl, rfl⟩ hK
theorem TS.rd {x : Int} {K : Int → Prop} (x0 : 0 ≤ x) (x1 : x < (p.m.cs.length : Int)) (hK : K (gt p.m.cs x)) : (0 ≤ x ∧ x < (r5.len : Int)) ∧ deref r5.a fun a => ld ki h (a.add (x.toNat * 1)) K := by
  have hl := o.cel.len
  refine ⟨⟨x0, by omega⟩, o.cel.arr.at (i := x) x0 (by omega) rfl fun y hy => ?_⟩
  rw [gt_get x0 x1] at hy; cases hy; exact hK
theorem TS.rd' {x : Int} {K : Int → Prop} (x0 : 0 ≤ x) (x1 : x < (p.m.cs.length : Int)) (hK : K (gt p.m.cs x)) : deref r5.a fun a => ld ki h (a.add (x.toNat * 1)) K := (o.rd x0 x1 hK).2
theorem TS.appL (hl : L.length ≤ 1000000000) {v : Int} {K : Heap → Prop} (hK : ∀ t h', TS h0 g b P dq al ds p S td tk r5 t st fl (L ++ [v]) ST F sl dn bt h' → K h') :
    Go.Mx.new h (([v] : List (Den ki)).flatMap (Kd.cells ki)) fun p h9 => appendM 1 8 h9 lf ⟨some p, 1, 1⟩ fun t h11 => Go.Mx.st .sl h11 (((ptr g).add 6).add 1) t K := by
  rw [add_add']
  exact o.st.appT 6 rfl (by decide) rfl (x' := fun t => tD b P dq td al tk t st fl sl dn p.woken bt Sl.none) (fun t => rfl) (by decide) hl fun t h' q => hK t h' ⟨q⟩
theorem TS.appS (hl : ST.length ≤ 1000000000) {v : Int} {K : Heap → Prop} (hK : ∀ t h', TS h0 g b P dq al ds p S td tk r5 lf t fl L (ST ++ [v]) F sl dn bt h' → K h') :
    Go.Mx.new h (([v] : List (Den ki)).flatMap (Kd.cells ki)) fun p h9 => appendM 1 8 h9 st ⟨some p, 1, 1⟩ fun t h11 => Go.Mx.st .sl h11 (((ptr g).add 6).add 2) t K := by
  rw [add_add']
  exact o.st.appT 7 rfl (by decide) rfl (x' := fun t => tD b P dq td al tk lf t fl sl dn p.woken bt Sl.none) (fun t => rfl) (by decide) hl fun t h' q => hK t h' ⟨q⟩
theorem TS.appF (hl : F.length ≤ 1000000000) {v : Int} {K : Heap → Prop} (hK : ∀ t h', TS h0 g b P dq al ds p S td tk r5 lf st t L ST (F ++ [v]) sl dn bt h' → K h') :
    Go.Mx.new h (([v] : List (Den ki)).flatMap (Kd.cells ki)) fun p h9 => appendM 1 8 h9 fl ⟨some p, 1, 1⟩ fun t h11 => Go.Mx.st .sl h11 (((ptr g).add 6).add 3) t K := by
  rw [add_add']
  exact o.st.appT 8 rfl (by decide) rfl (x' := fun t => tD b P dq td al tk lf st t sl dn p.woken bt Sl.none) (fun t => rfl) (by decide) hl fun t h' q => hK t h' ⟨q⟩
theorem TS.stN {v : Int} {K : Heap → Prop} (hK : ∀ h', TS h0 g b P dq al ds p S td tk r5 lf st fl L ST F v dn bt h' → K h') : Go.Mx.st ki h (((ptr g).add 6).add 4) v K := by
  rw [add_add']
  exact o.obj.st (kf := ki) (v := (v : Int)) (x' := tD b P dq td al tk lf st fl v dn p.woken bt Sl.none) rfl (by decide) rfl fun h' q e => hK h' ⟨o.st.putObj 0 rfl e q⟩
theorem TS.stD {v : Int} {K : Heap → Prop} (hK : ∀ h', TS h0 g b P dq al ds p S td tk r5 lf st fl L ST F sl v bt h' → K h') : Go.Mx.st ki h (((ptr g).add 6).add 5) v K := by
  rw [add_add']
  exact o.obj.st (kf := ki) (v := (v : Int)) (x' := tD b P dq td al tk lf st fl sl v p.woken bt Sl.none) rfl (by decide) rfl fun h' q e => hK h' ⟨o.st.putObj 0 rfl e q⟩
theorem TS.stB {v : Bool} {K : Heap → Prop} (hK : ∀ h', TS h0 g b P dq al ds p S td tk r5 lf st fl L ST F sl dn v h' → K h') : Go.Mx.st .bool h (((ptr g).add 6).add 7) v K := by
  rw [add_add']
  exact o.obj.st (kf := .bool) (v := v) (x' := tD b P dq td al tk lf st fl sl dn p.woken v Sl.none) rfl (by decide) rfl fun h' q e => hK h' ⟨o.st.putObj 0 rfl e q⟩
theorem TS.ldE {who : Nat} (hw : who < p.acts.length) {a : Addr} (ha : al.a = some a) {kp : Kd} {off : Nat} {y : Den kp} {pre post : List Value} (hp : KGa.cells (p.act who).den = pre ++ kp.cells y ++ post) (hl : pre.length = off) {K : Den kp → Prop} (hK : K y) : Go.Mx.ld kp h ((a.add (who * 173)).add off) K :=
  o.als.arr.ldPart (kp := kp) (y := y) ha (x := (p.act who).den) (by rw [List.getElem?_map, gact_get hw]; rfl) ⟨pre, post, hp, hl⟩ rfl hK
end
structure RunIs (h0 h : Heap) (D : Int) (p : PG) (r : Den KRun) : Prop where
  tk : New h0 h KP2 r.1 p.taken
  lf : New h0 h ki r.2.1 (leftOf p.m.cs D)
  st : New h0 h ki r.2.2.1 (statesOf (p.acts.drop 1))
  fl : New h0 h ki r.2.2.2.1 (flagsOf p.m.cs p.acts.length)
  sl : r.2.2.2.2.1 = gt p.m.cs 0
  dn : r.2.2.2.2.2.1 = gt p.m.cs 1
  wk : r.2.2.2.2.2.2.1 = p.woken
  bt : r.2.2.2.2.2.2.2.1 = (decide ((p.act 0).busy = 0) && !(p.act 0).wakes)
  lg : New h0 h KAcc r.2.2.2.2.2.2.2.2.1 p.m.lg
theorem told4_park {c3 c4} (i3 : ∀ {x n : Int} {h : Heap} {Q : Int → Heap → Prop}, 0 < n → n ≤ 1000000000 → Q (x % n) h → c3 x n h Q) (i4 : OutM KAcc AS.lg c4)
    {h0 : Heap} {g b : Nat} {P : Int} {dq al : Sl} {ds : List (Den KP2)} {p : PG} {S : Nat → Prop} {td tk r5 : Sl} {n : Nat} (ft : p.m.Fit n) (hn : n ≤ 100000000) (hal : (p.acts.length : Int) = P) {D : Int} (k : ToldOk p.m.cs D P)
    {Q : Unit → Heap → Prop} (hQ : ∀ td x h', Obj h' g KGp (some (ptr b), ((0, (P, ())), (dq, (td, (al, (x, ())))))) → RunIs h0 h' D p x → Q () h') {st fl : Sl} {bt : Bool} {h6 : Heap} (eb : bt = (decide ((p.act 0).busy = 0) && !(p.act 0).wakes)) (o6 : TS h0 g b P dq al ds p S td tk r5 Sl.none st fl [] (statesOf (p.acts.drop 1)) (flagsOf p.m.cs p.acts.length) (gt p.m.cs 0) (gt p.m.cs 1) bt h6) : Loop (park_game_told.l4 c3 c4 (some (ptr g)) Q r5 (ptr g) D (gt p.m.cs (D + 2))) (gt p.m.cs D, ()) h6 := by
  obtain ⟨k1, k2, k3, k4, k5, k6, k7, k8, k9, k10⟩ := k
  have wP : ∀ {x : Int}, 0 ≤ x → x ≤ 1000000000 → w64 x = x := fun {x} a b => by rw [w64_of] <;> omega
  refine Loop.up (gt p.m.cs (D + 1) - gt p.m.cs D).toNat (fun s => s.1 - gt p.m.cs D) (fun i s h => ∃ lf, TS h0 g b P dq al ds p S td tk r5 lf st fl ((List.range i).map fun (j : Nat) => leftAt p.m.cs D (gt p.m.cs D + (j : Int))) (statesOf (p.acts.drop 1)) (flagsOf p.m.cs p.acts.length) (gt p.m.cs 0) (gt p.m.cs 1) bt h) (Int.sub_self _) ⟨_, o6⟩ ?_
  rintro i ⟨i', u2⟩ h7 go hi hc ⟨lf, o7⟩ hgo
  dsimp only at hc
  obtain rfl : i' = gt p.m.cs D + (i : Int) := by omega
  show (0 ≤ w64 (D + 1) ∧ w64 (D + 1) < (r5.len : Int)) ∧ deref r5.a fun a67 => ld ki h7 (a67.add ((w64 (D + 1)).toNat * 1)) _
  rw [wP (x := D + 1) (by omega) (by omega)]
  refine o7.rd (by omega) (by omega) (dcase (fun e => ?_) (fun e => ?_))
  · have e : gt p.m.cs D + (i : Int) < gt p.m.cs (D + 1) := e
    refine ⟨⟨k8, by have := o7.cel.len; omega⟩, ?_⟩
    have hcl := o7.cel.len
    obtain ⟨ac, hac⟩ := o7.cel.own.addr (by omega)
    rw [hac]
    refine o7.ldL (o7.cel.arr.ldAt hac (i := (gt p.m.cs (D + 2)).toNat) (x := gt p.m.cs (gt p.m.cs (D + 2))) (gt_get k8 (by omega)) rfl ?_)
    obtain ⟨z, hz⟩ : ∃ z : Int, (gt p.m.cs D + (i : Int)) % gt p.m.cs (gt p.m.cs (D + 2)) = z := ⟨_, rfl⟩
    refine i3 (by omega) (by omega) ⟨o7.seesL, ?_⟩
    rw [hz]
    have m0 := Int.emod_nonneg (gt p.m.cs D + (i : Int)) (show gt p.m.cs (gt p.m.cs (D + 2)) ≠ 0 by omega)
    have m1 := Int.emod_lt_of_pos (gt p.m.cs D + (i : Int)) (show 0 < gt p.m.cs (gt p.m.cs (D + 2)) by omega)
    have hlf : leftAt p.m.cs D (gt p.m.cs D + (i : Int)) = gt p.m.cs (gt p.m.cs (D + 2) + 1 + (gt p.m.cs D + (i : Int)) % gt p.m.cs (gt p.m.cs (D + 2))) := rfl
    rw [hz] at m0 m1 hlf
    show (0 ≤ w64 (w64 (gt p.m.cs (D + 2) + 1) + z) ∧ w64 (w64 (gt p.m.cs (D + 2) + 1) + z) < (r5.len : Int)) ∧ deref (some ac) fun a74 => ld ki h7 (a74.add ((w64 (w64 (gt p.m.cs (D + 2) + 1) + z)).toNat * 1)) _
    rw [wP (x := gt p.m.cs (D + 2) + 1) (by omega) (by omega), wP (x := gt p.m.cs (D + 2) + 1 + z) (by omega) (by omega), ← hac]
    refine o7.rd (by omega) (by omega) (o7.appL (by rw [List.length_map, List.length_range]; omega) fun t h8 o8 => hgo (by omega) _ _ (by show w64 (gt p.m.cs D + (i : Int) + 1) - gt p.m.cs D = _; rw [wP] <;> omega) ⟨t, ?_⟩)
    rw [range_map_snoc, hlf]
    exact o8
  · have e : ¬ gt p.m.cs D + (i : Int) < gt p.m.cs (D + 1) := e
    obtain rfl : i = (gt p.m.cs (D + 1) - gt p.m.cs D).toNat := by omega
    refine o7.ldm (i4 o7.ra ft (by omega) fun lg h8 n8 => ?_)
    have s8 := o7.st.add (r' := Res.new h0 KAcc lg p.m.lg) n8.le n8.new (n8.base o7.st.le)
    have ob : Obj h8 g KGp (tD b P dq td al tk lf st fl (gt p.m.cs 0) (gt p.m.cs 1) p.woken bt Sl.none) := (s8.ok (i := 0) rfl).1
    refine tD_log ob fun h9 q9 e9 => ?_
    have s9 := s8.putObj 0 rfl e9 q9
    exact hQ td (tk, (lf, (st, (fl, (gt p.m.cs 0, (gt p.m.cs 1, (p.woken, (bt, (lg, ()))))))))) h9 q9 ⟨s9.ok (i := 4) rfl, s9.ok (i := 6) rfl, s9.ok (i := 7) rfl, s9.ok (i := 8) rfl, rfl, rfl, rfl, eb, s9.ok (i := 9) rfl⟩
theorem told3_park {c3 c4} (i3 : ∀ {x n : Int} {h : Heap} {Q : Int → Heap → Prop}, 0 < n → n ≤ 1000000000 → Q (x % n) h → c3 x n h Q) (i4 : OutM KAcc AS.lg c4)
    {h0 : Heap} {g b : Nat} {P : Int} {dq al : Sl} {ds : List (Den KP2)} {p : PG} {S : Nat → Prop} {td tk r5 : Sl} {n : Nat} (ft : p.m.Fit n) (hn : n ≤ 100000000) (hal : (p.acts.length : Int) = P) (ed : ds[0]? = some (dqAt ds 0)) (k : ToldOk p.m.cs (dqAt ds 0).1 P)
    {Q : Unit → Heap → Prop} (hQ : ∀ td x h', Obj h' g KGp (some (ptr b), ((0, (P, ())), (dq, (td, (al, (x, ())))))) → RunIs h0 h' (dqAt ds 0).1 p x → Q () h') {st fl : Sl} {bt : Bool} {h6 : Heap} (eb : bt = (decide ((p.act 0).busy = 0) && !(p.act 0).wakes)) (o6 : TS h0 g b P dq al ds p S td tk r5 Sl.none st fl [] (statesOf (p.acts.drop 1)) (flagsOf p.m.cs p.acts.length) (gt p.m.cs 0) (gt p.m.cs 1) bt h6) : park_game_told.j5 c3 c4 (some (ptr g)) Q r5 (ptr g) () h6 := by
  have k' := k
  obtain ⟨k1, k2, k3, k4, k5, k6, k7, k8, k9, k10⟩ := k
  have wP : ∀ {x : Int}, 0 ≤ x → x ≤ 1000000000 → w64 x = x := fun {x} a b => by rw [w64_of] <;> omega
  have dl : 0 < dq.len := by
    have := o6.dqs.len
    have := (List.getElem?_eq_some_iff.1 ed).1
    omega
  obtain ⟨ad, had⟩ := o6.dqs.own.addr dl
  refine o6.ldd ⟨⟨by omega, by omega⟩, ?_⟩
  rw [had]
  refine o6.dqs.arr.ldPart (kp := ki) (y := ((dqAt ds 0).1 : Int)) had (i := 0) (x := dqAt ds 0) ed ⟨[], _, rfl, rfl⟩ rfl ?_
  generalize hD : (dqAt ds 0).1 = D at *
  change Int at D
  rw [wP (x := D + 2) (by omega) (by omega)]
  refine o6.rd (by omega) (by omega) ⟨⟨(show (0 : Int) ≤ D by omega), (show D < (r5.len : Int) by have := o6.cel.len; omega)⟩, o6.rd' (x := D) (by omega) (by omega) ?_⟩
  exact told4_park i3 i4 ft hn hal k' hQ eb o6
theorem told2_park {c3 c4} (i3 : ∀ {x n : Int} {h : Heap} {Q : Int → Heap → Prop}, 0 < n → n ≤ 1000000000 → Q (x % n) h → c3 x n h Q) (i4 : OutM KAcc AS.lg c4)
    {h0 : Heap} {g b : Nat} {P : Int} {dq al : Sl} {ds : List (Den KP2)} {p : PG} {S : Nat → Prop} {td tk r5 : Sl} {n : Nat} (ft : p.m.Fit n) (hn : n ≤ 100000000) (hal : (p.acts.length : Int) = P) (ed : ds[0]? = some (dqAt ds 0)) (k : ToldOk p.m.cs (dqAt ds 0).1 P)
    {Q : Unit → Heap → Prop} (hQ : ∀ td x h', Obj h' g KGp (some (ptr b), ((0, (P, ())), (dq, (td, (al, (x, ())))))) → RunIs h0 h' (dqAt ds 0).1 p x → Q () h') {st : Sl} {h2 : Heap} (o2 : TS h0 g b P dq al ds p S td tk r5 Sl.none st Sl.none [] (statesOf (p.acts.drop 1)) [] 0 0 false h2) : Loop (park_game_told.l6 c3 c4 (some (ptr g)) Q r5 (ptr g) al) (0, ()) h2 := by
  have k' := k
  obtain ⟨k1, k2, k3, k4, k5, k6, k7, k8, k9, k10⟩ := k
  have hall := o2.als.len
  rw [List.length_map] at hall
  obtain ⟨a, ha⟩ := o2.als.own.addr (by omega)
  have wP : ∀ {x : Int}, 0 ≤ x → x ≤ 1000000000 → w64 x = x := fun {x} a b => by rw [w64_of] <;> omega
  refine Loop.up P.toNat (fun s => s.1) (fun i s h => ∃ fl, TS h0 g b P dq al ds p S td tk r5 Sl.none st fl [] (statesOf (p.acts.drop 1)) (flagsOf p.m.cs i) 0 0 false h) rfl ⟨_, o2⟩ ?_
  clear o2
  rintro i ⟨i', u'⟩ h3 go hi hc ⟨fl, o3⟩ hgo
  dsimp only at hc; subst hc
  refine dcase (fun e => ?_) (fun e => ?_)
  · have e : (i : Int) < (al.len : Int) := e
    have hil : i < P.toNat := by omega
    refine o3.ldF (o3.ldb ?_)
    have ei : w64 (w64 ((0 : Int) + 2) + (i : Int)) = 2 + (i : Int) := by rw [show w64 ((0 : Int) + 2) = 2 by decide, wP] <;> omega
    show (0 ≤ w64 (w64 ((0 : Int) + 2) + (i : Int)) ∧ w64 (w64 ((0 : Int) + 2) + (i : Int)) < (r5.len : Int)) ∧ deref r5.a fun a37 => ld ki h3 (a37.add ((w64 (w64 ((0 : Int) + 2) + (i : Int))).toNat * 1)) _
    rw [ei]
    refine o3.rd (by omega) (by omega) (o3.appF (by unfold flagsOf; rw [List.length_map, List.length_range]; omega) fun t h4 o4 => hgo hil _ _ (by show w64 ((i : Int) + 1) = _; rw [wP] <;> omega) ⟨t, ?_⟩)
    unfold flagsOf at o4 ⊢
    rw [range_map_snoc]
    exact o4
  · have e : ¬ (i : Int) < (al.len : Int) := e
    obtain rfl : i = P.toNat := by omega
    have ePn : P.toNat = p.acts.length := by omega
    rw [ePn] at o3
    clear hgo go hi e
    refine o3.ldb ?_
    show (0 ≤ w64 ((0 : Int) + 0) ∧ w64 ((0 : Int) + 0) < (r5.len : Int)) ∧ deref r5.a fun a47 => ld ki h3 (a47.add ((w64 ((0 : Int) + 0)).toNat * 1)) _
    rw [show w64 ((0 : Int) + 0) = 0 by decide]
    refine o3.rd (by decide) (by omega) (o3.ldb ?_)
    show (0 ≤ w64 ((0 : Int) + 1) ∧ w64 ((0 : Int) + 1) < (r5.len : Int)) ∧ deref r5.a fun a50 => ld ki h3 (a50.add ((w64 ((0 : Int) + 1)).toNat * 1)) _
    rw [show w64 ((0 : Int) + 1) = 1 by decide]
    refine o3.rd (by decide) (by omega) (o3.stN fun h4 o4 => o4.stD fun h5 o5 => o5.lda ⟨⟨by decide, by omega⟩, ?_⟩)
    rw [ha]
    have hw0 : 0 < p.acts.length := by omega
    refine o5.ldE hw0 ha (kp := ki) (gaBusy _) rfl (dcase (fun e => ?_) (fun e => ?_))
    · refine o5.lda ⟨⟨by decide, by omega⟩, ?_⟩
      rw [ha]
      refine o5.ldE hw0 ha (kp := .bool) (gaWake _) (pre4 _ _ _) (o5.stB fun h6 o6 => told3_park i3 i4 ft hn hal ed k' hQ ?_ o6)
      rw [decide_eq_true e]; rfl
    · refine o5.stB fun h6 o6 => told3_park i3 i4 ft hn hal ed k' hQ ?_ o6
      rw [decide_eq_false e]; rfl
theorem told_park {c1 c2 c3 c4} (i1 : OutM ki AS.cs c1) (i2 : PParkC c2) (i3 : ∀ {x n : Int} {h : Heap} {Q : Int → Heap → Prop}, 0 < n → n ≤ 1000000000 → Q (x % n) h → c3 x n h Q) (i4 : OutM KAcc AS.lg c4)
    {h0 : Heap} {g b : Nat} {P : Int} {dq al : Sl} {ds : List (Den KP2)} {p : PG} {h : Heap} (o : GmP h0 g b P dq al ds p h) {n : Nat} (ft : p.m.Fit n) (hn : n ≤ 100000000) (hal : (p.acts.length : Int) = P) (ed : ds[0]? = some (dqAt ds 0)) (k : ToldOk p.m.cs (dqAt ds 0).1 P)
    {Q : Unit → Heap → Prop} (hQ : ∀ td x h', Obj h' g KGp (some (ptr b), ((0, (P, ())), (dq, (td, (al, (x, ())))))) → RunIs h0 h' (dqAt ds 0).1 p x → Q () h') : park_game_told.M c1 c2 c3 c4 (some (ptr g)) h Q := by
  obtain ⟨S, td, tk, o⟩ := o
  have k' := k
  obtain ⟨k1, k2, k3, k4, k5, k6, k7, k8, k9, k10⟩ := k
  have hall := o.als.len
  rw [List.length_map] at hall
  obtain ⟨a, ha⟩ := o.als.own.addr (by omega)
  refine o.ldm (i1 o.ra ft (by omega) fun r5 h1 n5 => ?_)
  have s1 := (o.st.add (r' := Res.new h0 ki r5 p.m.cs) n5.le n5.new (n5.base o.le))
  have none : ∀ {rs h}, Stage h0 rs h → Stage h0 (rs ++ [Res.new h0 ki Sl.none []]) h := fun {rs h} q => q.add (r' := Res.new h0 ki Sl.none []) (.refl h) (fun x e => absurd e no_blkM) ((New.nil h ki).base q.le)
  have o1 : TS h0 g b P dq al ds p S td tk r5 Sl.none Sl.none Sl.none [] (statesOf ((p.acts.drop 1).take 0)) [] 0 0 false h1 := ⟨none (none (none s1))⟩
  clear none s1
  refine o1.lda ⟨⟨by decide, by omega⟩, ?_⟩
  have cutl : ((al.cut 1 al.len 173).len : Int) = P - 1 := by
    show ((al.len - 1 : Nat) : Int) = _; omega
  have dropl : (p.acts.drop 1).length = (P - 1).toNat := by rw [List.length_drop]; omega
  refine Loop.up (P - 1).toNat (fun s => s.1) (fun i s h => ∃ st, TS h0 g b P dq al ds p S td tk r5 Sl.none st Sl.none [] (statesOf ((p.acts.drop 1).take i)) [] 0 0 false h) rfl ⟨_, o1⟩ ?_
  rintro i ⟨i', u⟩ h2 go hi hc ⟨st, o2⟩ hgo
  dsimp only at hc; subst hc
  refine dcase (fun e => ?_) (fun e => ?_)
  · have e : (i : Int) < ((al.cut 1 al.len 173).len : Int) := e
    have hil : i < (P - 1).toNat := by omega
    have hx : ((p.acts.map GAct.den).drop 1)[i]? = some (p.act (i + 1)).den := by
      rw [List.getElem?_drop, List.getElem?_map, Nat.add_comm 1 i, gact_get (by omega)]; rfl
    have tke : (p.acts.drop 1).take (i + 1) = (p.acts.drop 1).take i ++ [p.act (i + 1)] := by
      have hg : (p.acts.drop 1)[i]? = some (p.act (i + 1)) := by rw [List.getElem?_drop, Nat.add_comm 1 i]; exact gact_get (by omega)
      rw [List.take_add_one, hg]; rfl
    have step : ∀ {v : Int}, v = (p.act (i + 1)).state → park_game_told.j2 (ptr g) go ((i : Int), u) (v, ()) h2 := fun {v} ev => by
      refine o2.ldS (o2.appS (by unfold statesOf; rw [List.length_map, List.length_take]; omega) fun t h3 o3 => hgo hil _ _ (by show w64 ((i : Int) + 1) = _; rw [w64_of] <;> omega) ⟨t, ?_⟩)
      rw [tke]
      unfold statesOf at o3 ⊢
      rw [List.map_append]
      rw [ev] at o3
      exact o3
    have hb : 0 ≤ (i : Int) ∧ (i : Int) < ((al.cut 1 al.len 173).len : Int) := ⟨by omega, e⟩
    have arr := o2.als.arr.suf (n := 1) (sz := 173) (by omega) rfl
    refine ⟨hb, arr.at (i := (i : Int)) hb.1 hb.2 rfl fun y hy => ?_⟩
    rw [Int.toNat_natCast, hx] at hy
    obtain rfl := Option.some.inj hy
    refine ⟨fun q => step ?_, fun q => ⟨fun q2 => step ?_, fun q2 => dcase (fun q3 => i2 (o := (p.act (i + 1)).lot) ⟨fun q4 => step ?_, fun q4 => step ?_⟩) fun q3 => ⟨fun q4 => (by cases q4), fun _ => step ?_⟩⟩⟩
    · have q : (p.act (i + 1)).halted = true := q
      unfold GAct.state; rw [if_pos q]
    all_goals have q : (p.act (i + 1)).halted = false := q
    · have q2 : (p.act (i + 1)).steals = true := q2
      unfold GAct.state; rw [if_neg (by rw [q]; decide), if_pos q2]
    all_goals have q2 : (p.act (i + 1)).steals = false := q2
    · have q3 : (p.act (i + 1)).busy = 2 := q3
      have q4 : (p.act (i + 1)).lot.parked = true := q4
      unfold GAct.state; rw [if_neg (by rw [q]; decide), if_neg (by rw [q2]; decide), if_pos ⟨q3, q4⟩]
    · have q3 : (p.act (i + 1)).busy = 2 := q3
      have q4 : (p.act (i + 1)).lot.parked = false := q4
      unfold GAct.state; rw [if_neg (by rw [q]; decide), if_neg (by rw [q2]; decide), if_neg (fun z => by rw [q4] at z; exact absurd z.2 (by decide))]
    · have q3 : ¬ (p.act (i + 1)).busy = 2 := q3
      unfold GAct.state; rw [if_neg (by rw [q]; decide), if_neg (by rw [q2]; decide), if_neg (fun z => q3 z.1)]
  · have e : ¬ (i : Int) < ((al.cut 1 al.len 173).len : Int) := e
    obtain rfl : i = (P - 1).toNat := by omega
    rw [← dropl, List.take_length] at o2
    clear hgo go hi e o1
    refine o2.lda ?_
    exact told2_park i3 i4 ft hn hal ed k' hQ o2
end Go.Mx

namespace Go.Mx

def LayJ (T : TypeId) (c : Value → Int → Int → Heap → ((Den KP2 × (Int × Unit)) → Heap → Prop) → Prop) : Prop := ∀ {h0 h : Heap} {b : Nat} {sz : Int} {cs : List Int} {S : Nat → Prop} {low most : Int} {Q : (Den KP2 × (Int × Unit)) → Heap → Prop}, RA h0 b ⟨sz, cs, [], 0, false⟩ S h → CapE low most → (cs.length : Int) + (4 + low) ≤ sz → sz ≤ 1048576 →
  (∀ S' h', RA h0 b ⟨sz, laid low cs, [], 0, false⟩ S' h' → Step S S' h h' → Q (((cs.length : Int), (most, ())), (0, ())) h') → c (.iface T (.pointer (some (ptr b)))) low most h Q
theorem dnewG_spec {T : TypeId} {cL cR cS cC cN} (k : ∀ b, ArC cL cR cS cC cN (.iface T (.pointer (some (ptr b)))) b) {c1 : Int → Int → Heap → (Bool → Heap → Prop) → Prop} (i1 : ∀ {a b h Q}, deque_capsOK.M a b h Q → c1 a b h Q) : LayJ T (deque_New.M c1 cR cS) := by
  intro h0 h b sz cs S low most Q R hc hs hz hQ
  obtain ⟨c, l, rfl, o⟩ := R
  dsimp only at o
  obtain ⟨q1, q2, q3⟩ := hc
  refine ⟨(k b).iface, fun e => (by rw [(k b).some'] at e; cases e), fun _ => i1 (caps_spec (fun q => ⟨fun e => (by cases e), fun _ => ?_⟩) (fun q => absurd ⟨q1, q2, q3⟩ q))⟩
  have w1 : w64 (4 + low) = 4 + low := by rw [w64_of] <;> omega
  rw [w1]
  refine (k b).reserve o (Nat.zero_le _) (by omega) hz (fun e => absurd e (by omega)) (fun _ e => absurd e (by omega)) fun c' l' h2 _ _ o2 s2 => ⟨fun e => absurd rfl (of_decide_eq_true e), fun _ => ?_⟩
  have w2 : w64 ((cs.length : Int) + 2) = (cs.length : Int) + 2 := by rw [w64_of] <;> omega
  have w3 : w64 ((cs.length : Int) + 3) = (cs.length : Int) + 3 := by rw [w64_of] <;> omega
  have hlen : ((cs ++ List.replicate (4 + low).toNat (0 : Int)).length : Int) = (cs.length : Int) + (4 + low) := by rw [List.length_append, List.length_replicate]; omega
  dsimp only
  rw [w2, w3]
  refine (k b).store o2 (Nat.zero_le _) (fun e => absurd ⟨by omega, by rw [hlen]; omega⟩ e) fun l3 h3 _ o3 s3 => ⟨fun e => absurd rfl (of_decide_eq_true e), fun _ => ?_⟩
  refine (k b).store o3 (Nat.zero_le _) (fun e => absurd ⟨by omega, by rw [List.length_set, hlen]; omega⟩ e) fun l4 h4 _ o4 s4 => ⟨fun e => absurd rfl (of_decide_eq_true e), fun _ => ?_⟩
  have e1 : ((cs.length : Int) + 2).toNat = cs.length + 2 := by omega
  have e2 : ((cs.length : Int) + 3).toNat = cs.length + 3 := by omega
  rw [e1, e2] at o4
  exact hQ _ h4 ⟨c', l4, rfl, o4⟩ ((s2.trans s3).trans s4)
end Go.Mx

namespace Go.Mx

def LotG (T : TypeId) (c : Value → Int → Heap → ((Den KP2 × (Int × Unit)) → Heap → Prop) → Prop) : Prop := ∀ {h0 h : Heap} {b p : Nat} {sz : Int} {S : Nat → Prop} {Q : (Den KP2 × (Int × Unit)) → Heap → Prop}, RA h0 b ⟨sz, [], [], 0, false⟩ S h → 1 ≤ p → p ≤ 64 → 2 + (p : Int) ≤ sz → sz ≤ 1048576 →
  (∀ S' h', RA h0 b ⟨sz, List.replicate (2 + p) 0, [], 0, false⟩ S' h' → Step S S' h h' → Q (((0 : Int), ((p : Int), ())), (0, ())) h') → c (.iface T (.pointer (some (ptr b)))) (p : Int) h Q
theorem lotG_spec {T : TypeId} {cL cR cS cC cN} (k : ∀ b, ArC cL cR cS cC cN (.iface T (.pointer (some (ptr b)))) b) {cn : Value → Prop} (hN : ∀ b, cn (Value.func (.method "Reserve") (List.toArray [Kd.val .iface (.iface T (.pointer (some (ptr b))))]) (List.toArray []))) {cc} (iC : PCellsC cc) : LotG T (park_New.M cc cR cn) := by
  intro h0 h b p sz S Q ra p1 p2 hs hz hQ
  obtain ⟨c, l, rfl, o⟩ := ra
  refine ⟨trivial, fun e => (by cases e), fun _ => iC (fun q => absurd ⟨by omega, by omega⟩ q) fun _ _ => ⟨fun e => ?_, fun _ => ⟨hN b, iC (fun q => absurd ⟨by omega, by omega⟩ q) fun _ _ => ?_⟩⟩⟩
  · have e : (2 : Int) + (p : Int) = 0 := of_decide_eq_true e
    omega
  · refine (k b).reserve o (Nat.zero_le _) (by show (0 : Int) ≤ sz; omega) hz (fun e => absurd e (by omega)) (fun _ e => absurd e (by show ¬ sz - 0 < 2 + (p : Int); omega)) fun c' l' h2 _ _ o2 s2 => ⟨fun e => absurd rfl (of_decide_eq_true e), fun _ => hQ _ h2 ⟨c', l', rfl, ?_⟩ s2⟩
    have e : ([] : List Int) ++ List.replicate (2 + (p : Int)).toNat 0 = List.replicate (2 + p) 0 := by
      rw [List.nil_append, show (2 + (p : Int)).toNat = 2 + p by omega]
    rw [e] at o2
    exact o2
def lows (first : Int) (i : Nat) : Int := if i = 0 then first else 1
def layP (first most : Int) (P : Nat) : Nat → List Int × List (Den KP2)
  | 0 => (List.replicate (2 + P) 0, [])
  | i + 1 => (laid (lows first i) (layP first most P i).1, (layP first most P i).2 ++ [(((layP first most P i).1.length : Int), (lows most i, ()))])
theorem laid_lenP (low : Int) (cs : List Int) (h : 1 ≤ low) : ((laid low cs).length : Int) = (cs.length : Int) + (4 + low) := by
  unfold laid
  rw [List.length_set, List.length_set, List.length_append, List.length_replicate]
  omega
theorem layP_len {first most : Int} (f1 : 1 ≤ first) (P : Nat) : ∀ i, ((layP first most P i).1.length : Int) = 2 + (P : Int) + (if i = 0 then 0 else 4 + first + 5 * ((i : Int) - 1)) ∧ (layP first most P i).2.length = i
  | 0 => ⟨by show ((List.replicate (2 + P) (0 : Int)).length : Int) = _; rw [List.length_replicate, if_pos rfl]; omega, rfl⟩
  | i + 1 => by
    obtain ⟨a, b⟩ := layP_len f1 P i
    have l1 : 1 ≤ lows first i := by unfold lows; split <;> omega
    refine ⟨?_, by show ((layP first most P i).2 ++ [_]).length = _; rw [List.length_append, b]; rfl⟩
    show ((laid (lows first i) (layP first most P i).1).length : Int) = _
    rw [laid_lenP _ _ l1, a, if_neg (Nat.succ_ne_zero i)]
    unfold lows
    by_cases e : i = 0
    · subst e; rw [if_pos rfl, if_pos rfl]; show 2 + (P : Int) + 0 + (4 + first) = 2 + (P : Int) + (4 + first + 5 * ((0 : Int) + 1 - 1)); omega
    · rw [if_neg e, if_neg e]; omega
theorem layP_mem {first most : Int} (f1 : 1 ≤ first) (fm : first ≤ most) (m2 : most ≤ 4096) (P : Nat) (p8 : P ≤ 8) : ∀ i, i ≤ P → ∀ x ∈ (layP first most P i).2, (1 ≤ (x.2.1 : Int) ∧ (x.2.1 : Int) ≤ 4096) ∧ 0 ≤ (x.1 : Int) ∧ (x.1 : Int) ≤ 1000000
  | 0, _, x, hx => by cases hx
  | i + 1, hi, x, hx => by
    rcases List.mem_append.1 (show x ∈ (layP first most P i).2 ++ [_] from hx) with q | q
    · exact layP_mem f1 fm m2 P p8 i (by omega) x q
    · rw [List.mem_singleton] at q
      subst q
      have := (layP_len (most := most) f1 P i).1
      refine ⟨by show 1 ≤ lows most i ∧ lows most i ≤ 4096; unfold lows; split <;> omega, Int.natCast_nonneg _, ?_⟩
      show ((layP first most P i).1.length : Int) ≤ _
      split at this <;> omega
def dsP (first most : Int) (P : Nat) : List (Den KP2) := (layP first most P P).2
theorem dsP_ok {first most : Int} (hc : CapE first most) {P : Nat} (p1 : 1 ≤ P) (p8 : P ≤ 8) : PlOk (P : Int) (dsP first most P) := by
  obtain ⟨c1, c2, c3⟩ := hc
  have h := layP_mem c1 c2 c3 P p8 P (Nat.le_refl _)
  exact ⟨by omega, by omega, by rw [show dsP first most P = (layP first most P P).2 from rfl, (layP_len c1 P P).2], fun x hx => (h x hx).1, fun x hx => by
    obtain ⟨a, b⟩ := (h x hx).2
    exact (w64_of (x := (x.1 : Int)) (Int.le_trans (by decide) a) (Int.lt_of_le_of_lt b (by decide)) : w64 (x.1 : Int) = x.1)⟩
theorem layP_0 {first most : Int} (P : Nat) : ∀ i, (layP first most P (i + 1)).2[0]? = some (((2 + P : Nat) : Int), (most, ()))
  | 0 => by
    show some ((((List.replicate (2 + P) (0 : Int)).length : Nat) : Int), (lows most 0, ())) = _
    rw [List.length_replicate]; rfl
  | i + 1 => by
    show ((layP first most P (i + 1)).2 ++ [_])[0]? = _
    rw [List.getElem?_append_left]
    · exact layP_0 P i
    · show 0 < ((layP first most P i).2 ++ [_]).length
      rw [List.length_append]; exact Nat.succ_pos _
theorem dsP_0 {first most : Int} {P : Nat} (p1 : 1 ≤ P) : dqAt (dsP first most P) 0 = ((2 + (P : Int)), (most, ())) := by
  obtain ⟨i, rfl⟩ : ∃ i, P = i + 1 := ⟨P - 1, by omega⟩
  have := layP_0 (first := first) (most := most) (i + 1) i
  unfold dqAt dsP
  rw [show (0 : Int).toNat = 0 from rfl, this]
  show (((2 + (i + 1) : Nat) : Int), (most, ())) = _
  rw [show ((2 + (i + 1) : Nat) : Int) = 2 + ((i + 1 : Nat) : Int) by omega]
def szP (first most : Int) (P : Nat) : Int := 2 + (P : Int) + cellsOf first most + ((P : Int) - 1) * 5
theorem cells11 : cellsOf 1 1 = 5 := by
  unfold cellsOf
  rw [cellsGo_end (by decide)]; rfl
def pg0 (first most : Int) (P : Nat) (todos : List DTd) : PG := ⟨⟨szP first most P, (layP first most P P).1, [], 0, true⟩, todos, List.replicate P GAct.zero, [], 0⟩
def parkOf (first most : Int) (P : Nat) (todos : List DTd) (ws : List Nat) : PG := (pg0 first most P todos).run (P : Int) (dsP first most P) ws
theorem szP_le {first most : Int} (hc : CapE first most) {P : Nat} (p8 : P ≤ 8) : szP first most P ≤ 100000 := by
  obtain ⟨c1, c2, c3⟩ := hc
  have b := cellsGo_le most 4096 (4 + first) first c1 c2
  unfold szP cellsOf
  omega
theorem pg0_ok {first most : Int} (hc : CapE first most) {P : Nat} (p1 : 1 ≤ P) (p8 : P ≤ 8) (todos : List DTd) : GOk (pg0 first most P todos) 0 := by
  have hb := cellsOf_bound hc
  have hs := szP_le hc p8
  have hl := (layP_len (most := most) hc.1 P P).1
  refine ⟨⟨Nat.le_refl _, ?_, by show szP first most P ≤ _; omega⟩, fun a ha => ?_, Nat.le_refl _⟩
  · show ((layP first most P P).1.length : Int) ≤ szP first most P
    rw [hl, if_neg (by omega)]
    unfold szP; omega
  · rw [(List.mem_replicate.1 ha).2]; exact .zero
def kindOk (t : DTd) : Bool := decide (t.1 = 0) || decide (t.1 = 1) || decide (t.1 = 3)
def judgeP (first most sl : Int) (todos : List DTd) (picks : List Int) : Int :=
  if 4096 < todos.length ∨ 1048576 < picks.length then 2 else if ¬ CapE first most then 30 else if sl < 0 ∨ 7 < sl then 3 else if todos.all kindOk = true then 0 else 31
end Go.Mx

namespace Go.Mx

theorem pjudged_spec {c} (iC : ∀ {a b : Int} {h : Heap} {Q : Int → Heap → Prop}, (CapE a b → Q (cellsOf a b) h) → (¬ CapE a b → Q 0 h) → c a b h Q) {first most sl : Int} {td pk : Sl} {h : Heap} {todos : List DTd} {picks : List Int} (ht : Arr h KTd td todos) (hp : Arr h ki pk picks) {Q : Int → Heap → Prop} (hQ : Q (judgeP first most sl todos picks) h) :
    park_judged.M c first most sl td pk h Q := by
  have tl := ht.1
  have pl := hp.1
  unfold judgeP at hQ
  have long : (4096 < todos.length ∨ 1048576 < picks.length) → park_judged.j6 c first most sl td Q (true, ()) h := fun q => by
    rw [if_pos q] at hQ
    exact ⟨fun _ => hQ, fun e => (by cases e)⟩
  refine dcase (fun e => long ?_) (fun e => ?_)
  · have e : (4096 : Int) < (td.len : Int) := e
    exact .inl (by omega)
  have e : ¬ (4096 : Int) < (td.len : Int) := e
  by_cases e2 : (1048576 : Int) < (pk.len : Int)
  · rw [decide_eq_true e2]
    exact long (.inr (by omega))
  rw [decide_eq_false e2]
  rw [if_neg (by omega)] at hQ
  refine ⟨fun q => (by cases q), fun _ => iC (fun hc => ?_) (fun hc => ⟨fun _ => ?_, fun q => absurd rfl (of_decide_eq_false q)⟩)⟩
  · have hb := cellsOf_bound hc
    obtain ⟨c1, c2, c3⟩ := id hc
    rw [if_neg (fun q => q hc)] at hQ
    refine dcase (fun q => absurd q (by omega)) (fun _ => ?_)
    have bad : (sl < 0 ∨ 7 < sl) → park_judged.j5 td Q (true, ()) h := fun q => by
      rw [if_pos q] at hQ
      exact ⟨fun _ => hQ, fun e => (by cases e)⟩
    refine dcase (fun s => bad (.inl s)) (fun s => ?_)
    have s : ¬ sl < 0 := s
    by_cases s2 : (7 : Int) < sl
    · rw [decide_eq_true s2]; exact bad (.inr s2)
    rw [decide_eq_false s2]
    rw [if_neg (by omega)] at hQ
    refine ⟨fun q => (by cases q), fun _ => ?_⟩
    refine Loop.up todos.length (fun s => s.1) (fun i s g => g = h ∧ ∀ (j : Nat) t, j < i → todos[j]? = some t → kindOk t = true) rfl ⟨rfl, fun j t q => absurd q (Nat.not_lt_zero j)⟩ ?_
    rintro i ⟨i', u⟩ g go hi hcn ⟨rfl, H⟩ hgo
    dsimp only at hcn; subst hcn
    refine dcase (fun d => ?_) (fun d => ?_)
    · have d : (i : Int) < (td.len : Int) := d
      have hil : i < todos.length := by omega
      refine ⟨⟨by omega, d⟩, ht.at (i := (i : Int)) (by omega) d rfl fun t hx => ?_⟩
      rw [Int.toNat_natCast] at hx
      have nx : kindOk t = true → park_judged.j1 go ((i : Int), u) () g := fun k => hgo hil _ _ (by show w64 ((i : Int) + 1) = _; rw [w64_of] <;> omega) ⟨rfl, fun j t' q q' => by
        rcases Nat.lt_or_eq_of_le (Nat.lt_succ_iff.1 q) with z | z
        · exact H j t' z q'
        · subst z; rw [hx] at q'; cases q'; exact k⟩
      have no : kindOk t = false → Q 31 g := fun k => by
        rw [if_neg] at hQ
        · exact hQ
        · rw [List.all_eq_true]
          intro z
          rw [z t (List.mem_of_getElem? hx)] at k
          cases k
      refine dcase (fun k0 => dcase (fun k1 => ?_) (fun k1 => ?_)) (fun k0 => ?_)
      · by_cases k3 : (t.1 : Int) ≠ 3
        · show park_judged.j2 Q go ((i : Int), u) (decide ((t.1 : Int) ≠ 3), ()) g
          rw [decide_eq_true k3]
          refine ⟨fun _ => no ?_, fun q => (by cases q)⟩
          have k0 : (t.1 : Int) ≠ 0 := k0
          have k1 : (t.1 : Int) ≠ 1 := k1
          unfold kindOk
          rw [decide_eq_false k0, decide_eq_false k1, decide_eq_false k3]; rfl
        · show park_judged.j2 Q go ((i : Int), u) (decide ((t.1 : Int) ≠ 3), ()) g
          rw [decide_eq_false k3]
          refine ⟨fun q => (by cases q), fun _ => nx ?_⟩
          unfold kindOk
          rw [decide_eq_true (Decidable.not_not.1 k3)]; simp
      · refine ⟨fun q => (by cases q), fun _ => nx ?_⟩
        have k1 : (t.1 : Int) = 1 := Decidable.not_not.1 k1
        unfold kindOk
        rw [decide_eq_true k1]; simp
      · refine ⟨fun q => (by cases q), fun _ => nx ?_⟩
        have k0 : (t.1 : Int) = 0 := Decidable.not_not.1 k0
        unfold kindOk
        rw [decide_eq_true k0]; rfl
    · have d : ¬ (i : Int) < (td.len : Int) := d
      rw [if_pos] at hQ
      · exact hQ
      · rw [List.all_eq_true]
        intro t ht'
        obtain ⟨j, hj⟩ := List.getElem?_of_mem ht'
        exact H j t (by have := (List.getElem?_eq_some_iff.1 hj).1; omega) hj
  · rw [if_pos hc] at hQ; exact hQ
def runZ : Den KRun := (Sl.none, (Sl.none, (Sl.none, (Sl.none, (0, (0, (0, (false, (Sl.none, ())))))))))
theorem Stage.re {h0 : Heap} {rs rs' : List (Res h0)} {h : Heap} (o : Stage h0 rs h) (σ : Nat → Nat) (e : ∀ i r, rs'[i]? = some r → rs[σ i]? = some r) (inj : ∀ i j, i < rs'.length → j < rs'.length → σ i = σ j → i = j) : Stage h0 rs' h :=
  ⟨o.le, fun {i r} q => o.ok (e i r q), fun {i j r s} n q p => o.ap (fun z => n (inj i j (List.getElem?_eq_some_iff.1 q).1 (List.getElem?_eq_some_iff.1 p).1 z)) (e i r q) (e j s p)⟩
def WatchM (c : Option Addr → Bool → Heap → (Unit → Heap → Prop) → Prop) : Prop := ∀ {h0 : Heap} {b : Nat} {h : Heap} {s : AS} {S : Nat → Prop} {w : Bool} {Q : Unit → Heap → Prop}, RA h0 b s S h → (∀ h', RA h0 b { s with wt := w } S h' → Step S S h h' → Q () h') → c (some (ptr b)) w h Q
def NewA (c : Int → Heap → ((Option Addr × (Int × Unit)) → Heap → Prop) → Prop) : Prop := ∀ {n : Int} {h : Heap} {Q : (Option Addr × (Int × Unit)) → Heap → Prop}, 0 ≤ n → n ≤ 1048576 → (∀ b S h', RA h b ⟨n, [], [], 0, false⟩ S h' → Q (some (ptr b), (0, ())) h') → c n h Q
def WorkC (c : Option Addr → Option Addr → Heap → (Unit → Heap → Prop) → Prop) : Prop := ∀ {h0 : Heap} {g b : Nat} {P : Int} {dq al : Sl} {ds : List (Den KP2)} {p : PG} {S : Nat → Prop} {td tk : Sl} {h : Heap} {a : Addr} {N : Nat} {Q : Unit → Heap → Prop}, GmS h0 g b P dq al ds p S td tk h → PlOk P ds → GOk p N → N ≤ 100000000 → 0 < p.acts.length → al.a = some a →
    (∀ h', GmP h0 g b P dq al ds (p.work P (dqAt ds 0)) h' → Q () h') → c (some (ptr g)) (some (a.add (0 * 173))) h Q
def SleepC (c : Option Addr → Option Addr → Int → Heap → (Unit → Heap → Prop) → Prop) : Prop := ∀ {h0 : Heap} {g b : Nat} {P : Int} {dq al : Sl} {ds : List (Den KP2)} {p : PG} {S : Nat → Prop} {td tk : Sl} {h : Heap} {a : Addr} {N who : Nat} {Q : Unit → Heap → Prop}, GmS h0 g b P dq al ds p S td tk h → PlOk P ds → GOk p N → N ≤ 100000000 → (who : Int) < P → who < p.acts.length → al.a = some a →
    (∀ h', GmP h0 g b P dq al ds (p.sleep P ds who) h' → Q () h') → c (some (ptr g)) (some (a.add (who * 173))) (who : Int) h Q
def ToldC (c : Option Addr → Heap → (Unit → Heap → Prop) → Prop) : Prop := ∀ {h0 : Heap} {g b : Nat} {P : Int} {dq al : Sl} {ds : List (Den KP2)} {p : PG} {h : Heap} {n : Nat} {Q : Unit → Heap → Prop}, GmP h0 g b P dq al ds p h → p.m.Fit n → n ≤ 100000000 → (p.acts.length : Int) = P → ds[0]? = some (dqAt ds 0) → ToldOk p.m.cs (dqAt ds 0).1 P →
    (∀ td x h', Obj h' g KGp (some (ptr b), ((0, (P, ())), (dq, (td, (al, (x, ())))))) → RunIs h0 h' (dqAt ds 0).1 p x → Q () h') → c (some (ptr g)) h Q
section
variable {c0 : Int → Int → Int → Sl → Sl → Heap → (Int → Heap → Prop) → Prop} {c1 : Int → Heap → (Int → Heap → Prop) → Prop} {c2 : Int → Int → Heap → (Int → Heap → Prop) → Prop} {c3 : Int → Heap → ((Option Addr × (Int × Unit)) → Heap → Prop) → Prop} {c4 : Value → Int → Heap → ((Den KP2 × (Int × Unit)) → Heap → Prop) → Prop} {c5 : Value → Int → Int → Heap → ((Den KP2 × (Int × Unit)) → Heap → Prop) → Prop}
  {c6 : Option Addr → Bool → Heap → (Unit → Heap → Prop) → Prop} {c7 : Int → Int → Heap → (Int → Heap → Prop) → Prop} {c8 : Option Addr → Int → Heap → (Unit → Heap → Prop) → Prop} {c9 : Option Addr → Option Addr → Heap → (Unit → Heap → Prop) → Prop} {c10 : Option Addr → Option Addr → Int → Heap → (Unit → Heap → Prop) → Prop} {c11 : Option Addr → Heap → (Unit → Heap → Prop) → Prop}
theorem ppicks_spec (i7 : ∀ {x n : Int} {h : Heap} {Q : Int → Heap → Prop}, 0 < n → n ≤ 1000000000 → Q (x % n) h → c7 x n h Q) (i8 : WhoM c8) (i9 : WorkC c9) (i10 : SleepC c10) (i11 : ToldC c11)
    {h : Heap} {g b : Nat} {sl : Int} {dq al : Sl} {ds : List (Den KP2)} {p : PG} {h1 : Heap} (o : GmP h g b (1 + sl) dq al ds p h1) (G : GOk p 0) (ok : PlOk (1 + sl) ds) (hal : (p.acts.length : Int) = 1 + sl) {pk : Sl} {picks : List Int} (hp : Arr h ki pk picks) (hn : picks.length ≤ 1048576)
    (hT : ToldOk (p.run (1 + sl) ds (whos sl picks)).m.cs (dqAt ds 0).1 (1 + sl)) {Q : (Den KRun × (Int × Unit)) → Heap → Prop} (hQ : ∀ r h', RunIs h h' (dqAt ds 0).1 (p.run (1 + sl) ds (whos sl picks)) r → Q (r, (0, ())) h') {r15 : Option Addr × (Int × Unit)} (e15 : r15.1 = some (ptr b)) :
    Loop (park_Play.l4 c7 c8 c9 c10 c11 sl pk Q r15 (ptr g)) (0, ()) h1 := by
  have p1 := ok.p1
  have p8 := ok.p8
  have pl := hp.1
  have wlt : ∀ w ∈ whos sl picks, (w : Int) < 1 + sl := fun w hw => by
    obtain ⟨x, _, rfl⟩ := List.mem_map.1 hw
    have m0 := Int.emod_nonneg x (show 1 + sl ≠ 0 by omega)
    have m1 := Int.emod_lt_of_pos x (show 0 < 1 + sl by omega)
    omega
  have run : ∀ i, i ≤ picks.length → GOk (p.run (1 + sl) ds ((whos sl picks).take i)) i ∧ (p.run (1 + sl) ds ((whos sl picks).take i)).acts.length = p.acts.length := fun i hi => by
    have wl : (whos sl picks).length = picks.length := List.length_map ..
    obtain ⟨a, b⟩ := GOk.run ok ((whos sl picks).take i) G (fun w hw => wlt w (List.mem_of_mem_take hw))
    rw [List.length_take, wl, Nat.min_eq_left hi, Nat.zero_add] at a
    exact ⟨a, b⟩
  refine Loop.up picks.length (fun s => s.1) (fun i s k => GmP h g b (1 + sl) dq al ds (p.run (1 + sl) ds ((whos sl picks).take i)) k) rfl o ?_
  rintro i ⟨i', u⟩ k go hi hc o hgo
  dsimp only at hc; subst hc
  obtain ⟨Gi, li⟩ := run i hi
  refine dcase (fun e => ?_) (fun e => ?_)
  · have e : (i : Int) < (pk.len : Int) := e
    have hil : i < picks.length := by omega
    obtain ⟨S, td, tk, o⟩ := o
    refine ⟨⟨by omega, e⟩, (hp.le o.le).at (i := (i : Int)) (by omega) e rfl fun x hx => ?_⟩
    rw [Int.toNat_natCast] at hx
    have hw : w64 (1 + sl) = 1 + sl := by rw [w64_of] <;> omega
    have m0 := Int.emod_nonneg x (show 1 + sl ≠ 0 by omega)
    have m1 := Int.emod_lt_of_pos x (show 0 < 1 + sl by omega)
    have hwi : (whos sl picks)[i]? = some (x % (1 + sl)).toNat := by
      unfold whos
      rw [List.getElem?_map, hx]; rfl
    have tke : (whos sl picks).take (i + 1) = (whos sl picks).take i ++ [(x % (1 + sl)).toNat] := by rw [List.take_add_one, hwi]; rfl
    show c7 x (w64 (1 + sl)) k _
    rw [hw]
    refine i7 (by omega) (by omega) ?_
    rw [e15]
    obtain ⟨w, hwx⟩ : ∃ w : Nat, x % (1 + sl) = (w : Int) := ⟨(x % (1 + sl)).toNat, (Int.toNat_of_nonneg m0).symm⟩
    rw [hwx] at tke m1 ⊢
    rw [Int.toNat_natCast] at tke
    refine i8 o.ra fun h2 r2 s2 => ?_
    have o2 : GmS h g b (1 + sl) dq al ds ((p.run (1 + sl) ds ((whos sl picks).take i)).whoS w) S td tk h2 := o.arena r2 s2
    have G2 := Gi.whoS w
    generalize hp2 : p.run (1 + sl) ds ((whos sl picks).take i) = pi at *
    have hl2 : (pi.whoS w).acts.length = p.acts.length := li
    have all := o2.als.len
    rw [List.length_map] at all
    obtain ⟨a, ha⟩ := o2.als.own.addr (by omega)
    have nxt : ∀ {h3}, GmP h g b (1 + sl) dq al ds (pi.pick (1 + sl) ds w) h3 → park_Play.j3 go ((i : Int), u) () h3 := fun {h3} o3 => by
      refine hgo hil _ _ (by show w64 ((i : Int) + 1) = _; rw [w64_of] <;> omega) ?_
      rw [tke, PG.run_snoc, hp2]; exact o3
    refine dcase (fun q => ?_) (fun q => ?_)
    · have q : w = 0 := by omega
      subst q
      refine o2.lda ⟨⟨by omega, by omega⟩, ?_⟩
      rw [ha]
      refine i9 o2 ok G2 (by omega) (by omega) ha fun h3 o3 => nxt ?_
      unfold PG.pick
      rw [if_pos rfl]; exact o3
    · have q : ¬ w = 0 := fun z => q (by subst z; rfl)
      refine o2.lda ⟨⟨by omega, by omega⟩, ?_⟩
      rw [ha]
      refine i10 (who := w) o2 ok G2 (by omega) m1 (by omega) ha fun h3 o3 => nxt ?_
      unfold PG.pick
      rw [if_neg q]; exact o3
  · have e : ¬ (i : Int) < (pk.len : Int) := e
    obtain rfl : i = picks.length := by omega
    have wl : (whos sl picks).length = picks.length := List.length_map ..
    rw [← wl, List.take_length] at o li Gi
    refine i11 o Gi.fit (by omega) (by omega) ok.d0.1 hT fun td x h2 ob R => ?_
    refine ob.ld (kf := KRun) (y := x) ⟨[.pointer (some (ptr b)), .int .i64 0, .int .i64 (1 + sl), dq.val, td.val, al.val], [], ?_, rfl⟩ (hQ x h2 R)
    rw [List.append_nil]
    show [Value.pointer (some (ptr b)), .int .i64 0, .int .i64 (1 + sl), dq.val, td.val, al.val] ++ (KRun.cells x ++ []) = _
    rw [List.append_nil]
theorem pplay_spec (i0 : ∀ {first most sl : Int} {td pk : Sl} {h : Heap} {todos : List DTd} {picks : List Int} {Q : Int → Heap → Prop}, Arr h KTd td todos → Arr h ki pk picks → Q (judgeP first most sl todos picks) h → c0 first most sl td pk h Q) (i1 : PCellsC c1)
    (i2 : ∀ {a b : Int} {h : Heap} {Q : Int → Heap → Prop}, (CapE a b → Q (cellsOf a b) h) → (¬ CapE a b → Q 0 h) → c2 a b h Q) (i3 : NewA c3) (i4 : LotG 25 c4) (i5 : LayJ 25 c5) (i6 : WatchM c6)
    (i7 : ∀ {x n : Int} {h : Heap} {Q : Int → Heap → Prop}, 0 < n → n ≤ 1000000000 → Q (x % n) h → c7 x n h Q) (i8 : WhoM c8) (i9 : WorkC c9) (i10 : SleepC c10) (i11 : ToldC c11)
    {first most sl : Int} {td pk : Sl} {h : Heap} {todos : List DTd} {picks : List Int} (ht : Arr h KTd td todos) (hp : Arr h ki pk picks)
    (hT : judgeP first most sl todos picks = 0 → ToldOk (parkOf first most (1 + sl).toNat todos (whos sl picks)).m.cs (1 + sl + 2) (1 + sl)) {Q : (Den KRun × (Int × Unit)) → Heap → Prop}
    (hE : judgeP first most sl todos picks ≠ 0 → Q (runZ, (judgeP first most sl todos picks, ())) h) (hQ : judgeP first most sl todos picks = 0 → ∀ r h', RunIs h h' (1 + sl + 2) (parkOf first most (1 + sl).toNat todos (whos sl picks)) r → Q (r, (0, ())) h') :
    park_Play.M c0 c1 c2 c3 c4 c5 c6 c7 c8 c9 c10 c11 first most sl td pk h Q := by
  refine i0 ht hp (dcase (fun e => hE e) (fun e => ?_))
  have e : judgeP first most sl todos picks = 0 := Decidable.not_not.1 e
  have hT := hT e
  have hQ := hQ e
  clear hE
  unfold judgeP at e
  by_cases e1 : 4096 < todos.length ∨ 1048576 < picks.length
  · rw [if_pos e1] at e; cases e
  rw [if_neg e1] at e
  by_cases hc' : ¬ CapE first most
  · rw [if_pos hc'] at e; cases e
  have hc : CapE first most := Decidable.not_not.1 hc'
  rw [if_neg hc'] at e
  by_cases e3 : sl < 0 ∨ 7 < sl
  · rw [if_pos e3] at e; cases e
  clear e
  have hb := cellsOf_bound hc
  obtain ⟨c1', c2', c3'⟩ := id hc
  obtain ⟨P, hP⟩ : ∃ P : Nat, 1 + sl = (P : Int) := ⟨(1 + sl).toNat, by omega⟩
  have p1 : 1 ≤ P := by omega
  have p8 : P ≤ 8 := by omega
  have hw : w64 (1 + sl) = (P : Int) := by rw [w64_of] <;> omega
  have esl : sl = (P : Int) - 1 := by omega
  have ePn : (1 + sl).toNat = P := by omega
  rw [ePn] at hT hQ
  have hsz := szP_le hc (first := first) (most := most) p8
  have ok := dsP_ok hc p1 p8
  have d0 := dsP_0 (first := first) (most := most) p1
  show c1 (w64 (1 + sl)) h _
  rw [hw]
  refine i1 (fun q => absurd ⟨by omega, by omega⟩ q) fun _ _ => ?_
  refine i2 (fun _ => ?_) (fun q => absurd hc q)
  refine i2 (fun _ => ?_) (fun q => absurd ⟨by decide, by decide, by decide⟩ q)
  rw [cells11]
  have es : w64 (w64 (2 + (P : Int) + cellsOf first most) + w64 (sl * 5)) = szP first most P := by
    unfold szP at hsz ⊢
    rw [w64_of (x := 2 + (P : Int) + cellsOf first most) (by omega) (by omega), w64_of (x := sl * 5) (by omega) (by omega), w64_of (by omega) (by omega), esl]
  show c3 (w64 (w64 (2 + (P : Int) + cellsOf first most) + w64 (sl * 5))) h _
  rw [es]
  have hs0 : 2 + (P : Int) ≤ szP first most P := by unfold szP; omega
  refine i3 (by omega) (by omega) fun b S1 h1 ra1 => ⟨fun q => absurd rfl (of_decide_eq_true q), fun _ => ?_⟩
  refine make_new (by omega) (Int.le_refl _) (by omega) (by omega) fun al h2 n2 _ _ _ => ?_
  refine Obj.new (k := KGp) (x := (some (ptr b), ((0, (0, ())), (Sl.none, (td, (al, (runZ, ()))))))) fun g h3 hg ob3 l3 => ?_
  have st0 : Stage h [Res.ra h b ⟨szP first most P, [], [], 0, false⟩ S1] h1 := (Stage.nil h).add (rs := []) (r' := Res.ra h b ⟨szP first most P, [], [], 0, false⟩ S1) (h' := h1) (by obtain ⟨c, l, _, o⟩ := ra1; exact o.le) (fun x q => by obtain ⟨c, l, rfl, o⟩ := ra1; exact o.fresh q) ra1
  have ezero : List.replicate (P : Int).toNat KGa.zero = (List.replicate P GAct.zero).map GAct.den := by
    rw [List.map_replicate, Int.toNat_natCast]; rfl
  rw [ezero] at n2
  have st1 := st0.add (r' := Res.new h KGa al ((List.replicate P GAct.zero).map GAct.den)) n2.le n2.new (n2.base st0.le)
  have st2 := st1.add (r' := Res.obj h g KGp (some (ptr b), ((0, (0, ())), (Sl.none, (td, (al, (runZ, ()))))))) l3 (fun x q => by subst q; exact hg) ⟨ob3, st1.le.none hg⟩
  have none2 : ∀ {rs h'}, Stage h rs h' → Stage h (rs ++ [Res.new h KP2 Sl.none []]) h' := fun {rs h'} q => q.add (r' := Res.new h KP2 Sl.none []) (.refl h') (fun x e => absurd e no_blkM) ((New.nil h' KP2).base q.le)
  have st3 : Stage h [Res.obj h g KGp (some (ptr b), ((0, (0, ())), (Sl.none, (td, (al, (runZ, ())))))), Res.ra h b ⟨szP first most P, [], [], 0, false⟩ S1, Res.new h KP2 Sl.none [], Res.new h KGa al ((List.replicate P GAct.zero).map GAct.den), Res.new h KP2 Sl.none []] h3 := by
    refine (none2 (none2 st2)).re (fun i => if i = 0 then 2 else if i = 1 then 0 else if i = 2 then 3 else if i = 3 then 1 else i) (fun i r q => ?_) (fun i j hi hj q => ?_)
    · match i, q with
      | 0, q => exact q
      | 1, q => exact q
      | 2, q => exact q
      | 3, q => exact q
      | 4, q => exact q
      | n + 5, q => exact absurd q (by simp)
    · simp only [List.length_cons, List.length_nil] at hi hj
      revert q
      repeat' split
      all_goals omega
  clear st0 st1 st2 none2
  refine i4 (st3.ok (i := 1) rfl) p1 (by omega) hs0 (by omega) fun S' h4 r4 s4 => ?_
  have st4 := st3.put 1 rfl (r' := Res.ra h b ⟨szP first most P, List.replicate (2 + P) 0, [], 0, false⟩ S') s4 r4
  have ob4 : Obj h4 g KGp (some (ptr b), ((0, (0, ())), (Sl.none, (td, (al, (runZ, ())))))) := (st4.ok (i := 0) rfl).1
  refine ob4.st (kf := KP2) (off := 1) (v := ((0 : Int), ((P : Int), ()))) (x' := gmD b (P : Int) Sl.none td al Sl.none 0) rfl (by decide) rfl fun h5 q5 e5 => ⟨fun q => absurd rfl (of_decide_eq_true q), fun _ => ?_⟩
  have st5 := st4.putObj 0 rfl e5 q5
  clear st3 st4
  refine Loop.up P (fun s => s.2.2.1) (fun i s k => (i = 0 → s.1 = first ∧ s.2.1 = most) ∧ ∃ S dq, Stage h [Res.obj h g KGp (gmD b (P : Int) dq td al Sl.none 0), Res.ra h b ⟨szP first most P, (layP first most P i).1, [], 0, false⟩ S, Res.new h KP2 dq (layP first most P i).2, Res.new h KGa al ((List.replicate P GAct.zero).map GAct.den), Res.new h KP2 Sl.none []] k) rfl ⟨fun _ => ⟨rfl, rfl⟩, S', Sl.none, st5⟩ ?_
  rintro i ⟨f, mo, i', ru⟩ k go hi hcn ⟨hfm, S, dq, st⟩ hgo
  dsimp only at hcn hfm; subst hcn
  refine dcase (fun d => ?_) (fun d => ?_)
  · have d : (i : Int) < w64 (1 + sl) := d
    rw [hw] at d
    have hil : i < P := by omega
    obtain ⟨ll, dl⟩ := layP_len (most := most) c1' P i
    have j2 : park_Play.j2 c5 Q (some (ptr b), (0, ())) (ptr g) go (f, (mo, ((i : Int), ru))) (lows first i, lows most i, ()) k := by
      have hcap : CapE (lows first i) (lows most i) := by
        unfold lows CapE
        split
        · exact hc
        · decide
      refine i5 (low := lows first i) (most := lows most i) (st.ok (i := 1) rfl) hcap ?_ (by omega) fun S2 k2 r2 s2 => ⟨fun q => absurd rfl (of_decide_eq_true q), fun _ => ?_⟩
      · rw [ll]
        unfold szP lows
        split <;> omega
      · have st2 := st.put 1 rfl (r' := Res.ra h b ⟨szP first most P, laid (lows first i) (layP first most P i).1, [], 0, false⟩ S2) s2 r2
        have ob : Obj k2 g KGp (gmD b (P : Int) dq td al Sl.none 0) := (st2.ok (i := 0) rfl).1
        have nd : New h k2 KP2 dq (layP first most P i).2 := st2.ok (i := 2) rfl
        refine ob.ld (kf := .sl) (y := dq) (off := 3) ⟨[.pointer (some (ptr b)), .int .i64 0, .int .i64 P], _, rfl, rfl⟩ (nd.app3 (x := (((layP first most P i).1.length : Int), (lows most i, ()))) rfl rfl (by have := nd.len; omega) fun t k3 n3 x3 b3 => ?_)
        have st3 := st2.putNew 2 rfl x3 b3 n3
        have ob3 : Obj k3 g KGp (gmD b (P : Int) dq td al Sl.none 0) := (st3.ok (i := 0) rfl).1
        refine ob3.st (kf := .sl) (off := 3) (v := t) (x' := gmD b (P : Int) t td al Sl.none 0) rfl (by decide) rfl fun k4 q4 e4 => ?_
        have st4 := st3.putObj 0 rfl e4 q4
        exact hgo hil _ _ (by show w64 ((i : Int) + 1) = _; rw [w64_of] <;> omega) ⟨fun q => absurd q (Nat.succ_ne_zero i), S2, t, st4⟩
    refine dcase (fun q => ?_) (fun q => ?_)
    · have q : (0 : Int) < (i : Int) := q
      have : lows first i = 1 ∧ lows most i = 1 := by unfold lows; rw [if_neg (by omega), if_neg (by omega)]; exact ⟨rfl, rfl⟩
      rw [this.1, this.2] at j2
      exact j2
    · have q : ¬ (0 : Int) < (i : Int) := q
      have z : i = 0 := by omega
      obtain ⟨q1, q2⟩ := hfm z
      have : lows first i = f ∧ lows most i = mo := by unfold lows; rw [if_pos z, if_pos z]; exact ⟨q1.symm, q2.symm⟩
      rw [this.1, this.2] at j2
      exact j2
  · have d : ¬ (i : Int) < w64 (1 + sl) := d
    rw [hw] at d
    obtain rfl : i = P := by omega
    refine i6 (w := true) (st.ok (i := 1) rfl) fun k2 r2 s2 => ?_
    have st2 := st.put 1 rfl (r' := Res.ra h b ⟨szP first most i, (layP first most i i).1, [], 0, true⟩ S) s2 r2
    have o : GmP h g b (1 + sl) dq al (dsP first most i) (pg0 first most i todos) k2 := by
      rw [hP]
      exact ⟨S, td, Sl.none, ht, st2⟩
    have d1 : (dqAt (dsP first most i) 0).1 = 1 + sl + 2 := by
      rw [d0]
      show 2 + (i : Int) = _; omega
    refine ppicks_spec i7 i8 i9 i10 i11 o (pg0_ok hc p1 p8 todos) (by rw [hP]; exact ok) (by rw [hP]; show ((List.replicate i GAct.zero).length : Int) = _; rw [List.length_replicate]) hp (by omega) ?_ ?_ (r15 := (some (ptr b), (0, ()))) rfl
    · rw [d1]
      unfold parkOf at hT
      rw [← hP] at hT
      exact hT
    · rw [d1]
      unfold parkOf at hQ
      rw [← hP] at hQ
      exact hQ
end
end Go.Mx
