/-
  A play of one deque, as plain data.
  A play of one deque: what begin and step come to.
  deque.Play: what a play comes to.
  A play of one deque: what holds at each pick.
-/
import Derived.Test.YtndhbkhhehleaaaMxQc
import Derived.Test.YtndhbkhhehleaaaMxPt
import Derived.Test.YtndhbkhhehleaaaMxQd
set_option linter.unusedVariables false
set_option linter.unusedSimpArgs false
set_option linter.unusedSectionVars false
namespace Go.Mx

abbrev KTd : Kd := .pair ki (.pair ki .nil)
abbrev KCl : Kd := .pair ki (.pair ki (.pair ki (.pair ki (.pair ki (.pair ki (.pair ki .nil))))))
abbrev DTd := Den KTd
abbrev DCl := Den KCl
structure PS where
  m : AS
  todos : List DTd
  acts : List (DOp × Int)
  calls : List DCl
def PS.act (p : PS) (who : Nat) : DOp × Int := p.acts[who]?.getD (DOp.zero, -1)
def newCall (who kind arg n : Int) : DCl := (who, (kind, (arg, (n, ((-1), (0, (0, ())))))))
def endCall (c : DCl) (n code v : Int) : DCl := (c.1, (c.2.1, (c.2.2.1, (c.2.2.2.1, (n, (code, (v, ())))))))
def endAt (calls : List DCl) (i : Nat) (n code v : Int) : List DCl := match calls[i]? with
  | some c => calls.set i (endCall c n code v)
  | none => calls
def PS.begin (most : Int) (p : PS) (n : Int) (who : Nat) : Option PS :=
  if who = 0 then match p.todos with
    | [] => none
    | t :: ts => some { p with todos := ts, acts := p.acts.set 0 (if t.1 = 0 then DOp.push 0 most t.2.1 else DOp.pop 0 most, (p.calls.length : Int)), calls := p.calls ++ [newCall 0 t.1 (if t.1 = 0 then t.2.1 else 0) n] }
  else some { p with acts := p.acts.set who (DOp.steal 0 most, (p.calls.length : Int)), calls := p.calls ++ [newCall (who : Int) 2 0 n] }
def PS.go (p : PS) (n : Int) (who : Nat) : PS :=
  if (stepD arenaI { p.m with who := (who : Int) } (p.act who).1).2.answer.1 = 0 then
    { p with m := (stepD arenaI { p.m with who := (who : Int) } (p.act who).1).1, acts := p.acts.set who ((stepD arenaI { p.m with who := (who : Int) } (p.act who).1).2, (p.act who).2) }
  else { p with m := (stepD arenaI { p.m with who := (who : Int) } (p.act who).1).1, acts := p.acts.set who ((stepD arenaI { p.m with who := (who : Int) } (p.act who).1).2, -1), calls := endAt p.calls (p.act who).2.toNat n (stepD arenaI { p.m with who := (who : Int) } (p.act who).1).2.answer.1 (stepD arenaI { p.m with who := (who : Int) } (p.act who).1).2.answer.2 }
def PS.step (most : Int) (p : PS) (n : Int) (who : Nat) : PS :=
  if (p.act who).2 < 0 then match p.begin most n who with
    | none => p
    | some q => q.go n who
  else p.go n who
def PS.run (most : Int) (p : PS) (n : Nat) : List Nat → PS
  | [] => p
  | w :: ws => PS.run most (p.step most (n : Int) w) (n + 1) ws
theorem PS.run_snoc (most : Int) : ∀ (ws : List Nat) (p : PS) (n w : Nat), PS.run most p n (ws ++ [w]) = (PS.run most p n ws).step most ((n + ws.length : Nat) : Int) w
  | [], p, n, w => rfl
  | x :: ws, p, n, w => by
    show PS.run most (p.step most (n : Int) x) (n + 1) (ws ++ [w]) = _
    rw [PS.run_snoc most ws]
    show _ = (PS.run most (p.step most (n : Int) x) (n + 1) ws).step most _ w
    congr 2
    simp only [List.length_cons]; omega

structure PsOk (p : PS) (n : Nat) : Prop where
  fit : p.m.Fit n
  ok : ∀ a ∈ p.acts, a.1.Ok ∧ a.1.most ≤ 4096
  cl : ∀ a ∈ p.acts, a.2 < (p.calls.length : Int)
  cn : p.calls.length ≤ n
theorem mem_set' {α : Type} {l : List α} {i : Nat} {x a : α} (h : a ∈ l.set i x) : a ∈ l ∨ a = x := List.mem_or_eq_of_mem_set h
theorem begin_most {k pc most v : Int} : (DOp.begin k pc 0 most v).most ≤ 4096 := by
  unfold DOp.begin
  refine pif (P := fun o : DOp => o.most ≤ 4096) (fun _ => by decide) fun _ => pif (P := fun o : DOp => o.most ≤ 4096) (fun _ => by decide) fun q => by dsimp only; omega
theorem PsOk.begin {p : PS} {n : Nat} (h : PsOk p n) {most k : Int} {who : Nat} {q : PS} (e : p.begin most k who = some q) : PsOk q (n + 1) ∧ q.acts.length = p.acts.length ∧ q.m = p.m := by
  obtain ⟨h1, h2, h3, h4⟩ := h
  have fit : p.m.Fit (n + 1) := ⟨Nat.le_succ_of_le h1.lg, h1.cs, h1.sz⟩
  have key : ∀ (x : DOp) (i : Nat) (y : DCl) (ts : List DTd), x.Ok ∧ x.most ≤ 4096 → PsOk { p with todos := ts, acts := p.acts.set i (x, (p.calls.length : Int)), calls := p.calls ++ [y] } (n + 1) := fun x i y ts hx =>
    ⟨fit, fun a ha => by
      rcases mem_set' ha with ha | rfl
      · exact h2 a ha
      · exact hx, fun a ha => by
      show a.2 < ((p.calls ++ [y]).length : Int)
      rw [List.length_append]
      rcases mem_set' ha with ha | rfl
      · have := h3 a ha; simp; omega
      · simp; omega, by show (p.calls ++ [y]).length ≤ n + 1; rw [List.length_append]; simpa using h4⟩
  unfold PS.begin at e
  split at e
  · split at e
    · cases e
    · rename_i t ts _
      cases e
      refine ⟨key _ _ _ _ ?_, by show (p.acts.set _ _).length = _; rw [List.length_set], rfl⟩
      split
      · exact ⟨.begin (.inl rfl), begin_most⟩
      · exact ⟨.begin (.inl rfl), begin_most⟩
  · cases e
    exact ⟨key _ _ _ _ ⟨.begin (.inr rfl), begin_most⟩, by show (p.acts.set _ _).length = _; rw [List.length_set], rfl⟩
end Go.Mx

namespace Go.Mx

abbrev KGm : Kd := .pair .ptr (.pair KP2 (.pair .sl (.pair .sl (.pair .sl .nil))))
abbrev KAc : Kd := .pair KOp (.pair ki .nil)
def actDen (a : DOp × Int) : Den KAc := (a.1.den, (a.2, ()))
structure Gm (h0 h : Heap) (g b : Nat) (most : Int) (td ac ca c l : Sl) (p : PS) : Prop where
  obj : Obj h g KGm (some (ptr b), ((0, (most, ())), (td, (ac, (ca, ())))))
  ar : Ar h0 h b c l p.m.sz p.m.cs p.m.lg p.m.who p.m.wt
  tds : Arr h0 KTd td p.todos
  acts : New h0 h KAc ac (p.acts.map actDen)
  calls : New h0 h KCl ca p.calls
  ng : h0 g = none
  g1 : ¬ fpA b c l g
  g2 : ¬ blkOf ac g
  g3 : ¬ blkOf ca g
  s1 : ∀ x, blkOf ac x → ¬ fpA b c l x
  s2 : ∀ x, blkOf ca x → ¬ fpA b c l x
  s3 : Apart ac ca
def fpG (g b : Nat) (ac ca c l : Sl) : Nat → Prop := fun x => x = g ∨ fpA b c l x ∨ blkOf ac x ∨ blkOf ca x

section
variable {h0 h : Heap} {g b : Nat} {most : Int} {td ac ca c l : Sl} {p : PS} (o : Gm h0 h g b most td ac ca c l p)
include o
theorem Gm.arena {h' : Heap} {m' : AS} {c' l' : Sl} (a : Ar h0 h' b c' l' m'.sz m'.cs m'.lg m'.who m'.wt) (s : Step (fpA b c l) (fpA b c' l') h h') : Gm h0 h' g b most td ac ca c' l' { p with m := m' } ∧ Step (fpG g b ac ca c l) (fpG g b ac ca c' l') h h' := by
  have f : ∀ x, fpA b c l x → h0 x = none := fun x hx => o.ar.fresh hx
  refine ⟨⟨o.obj.ext s.1 o.g1, a, o.tds, o.acts.ext s.1 (fun x q => o.s1 x q) f, o.calls.ext s.1 (fun x q => o.s2 x q) f, o.ng, ?_, o.g2, o.g3, ?_, ?_, o.s3⟩, s.1.mono (fun x q => .inr (.inl q)), fun x q => ?_⟩
  · exact s.off (T := (· = g)) (fun x e q => by subst e; exact o.g1 q) (fun x e => by subst e; exact o.obj.live) g rfl
  · exact fun x q => s.off (T := blkOf ac) o.s1 (fun x q => o.acts.own.live x q) x q
  · exact fun x q => s.off (T := blkOf ca) o.s2 (fun x q => o.calls.own.live x q) x q
  · rcases q with q | q | q | q
    · exact .inl (.inl q)
    · rcases s.2 x q with e | e
      · exact .inl (.inr (.inl e))
      · exact .inr e
    · exact .inl (.inr (.inr (.inl q)))
    · exact .inl (.inr (.inr (.inr q)))
end

theorem map_set {α β : Type} (f : α → β) (l : List α) (i : Nat) (x : α) : (l.set i x).map f = (l.map f).set i (f x) := List.map_set

theorem set_set' {α : Type} (l : List α) (i : Nat) (x y : α) : (l.set i x).set i y = l.set i y := List.set_set ..

end Go.Mx

namespace Go.Mx

theorem tmod_emod (x n : Int) (h : 0 < n) : Int.tmod x n < 0 ∧ Int.tmod x n + n = x % n ∨ 0 ≤ Int.tmod x n ∧ Int.tmod x n = x % n := by
  rcases Int.lt_or_le x 0 with hx | hx
  · have h1 : Int.tmod x n = -(Int.tmod (-x) n) := by rw [Int.neg_tmod]; omega
    have h2 : Int.tmod (-x) n = (-x) % n := Int.tmod_eq_emod_of_nonneg (by omega)
    have h3 := Int.emod_nonneg (-x) (b := n) (by omega)
    have h4 := Int.emod_lt_of_pos (-x) h
    have h5 := Int.emod_nonneg x (b := n) (by omega)
    have h6 := Int.emod_lt_of_pos x h
    have h7 := Int.emod_def (-x) n
    have h8 := Int.emod_def x n
    by_cases z : (-x) % n = 0
    · right
      have : x % n = 0 := by
        have h9 : x % n = n * ((-x) / n) * -1 + x % n - x + x - n * ((-x) / n) * -1 := by omega
        have h10 : (-x) = n * ((-x) / n) := by omega
        have h11 : x = n * (-((-x) / n)) := by rw [Int.mul_neg]; omega
        rw [h11]; exact Int.mul_emod_right _ _
      omega
    · left
      refine ⟨by omega, ?_⟩
      have h10 : x = n * (-((-x) / n) - 1) + (n - (-x) % n) := by rw [Int.mul_sub, Int.mul_neg]; omega
      have h11 : x % n = (n - (-x) % n) := by
        conv => lhs; rw [h10]
        rw [Int.mul_add_emod_self_left]
        exact Int.emod_eq_of_lt (by omega) (by omega)
      omega
  · right
    have h2 : Int.tmod x n = x % n := Int.tmod_eq_emod_of_nonneg hx
    have h5 := Int.emod_nonneg x (b := n) (by omega)
    omega
theorem mod_range {x n : Int} (h : 0 < n) : 0 ≤ x % n ∧ x % n < n := ⟨Int.emod_nonneg x (by omega), Int.emod_lt_of_pos x h⟩
theorem opsMod_spec {x n : Int} (h0 : 0 < n) (h1 : n ≤ 1000000000) {h : Heap} {Q : Int → Heap → Prop} (hQ : Q (x % n) h) : ops_Mod.M x n h Q := by
  have hr := mod_range (x := x) h0
  refine dcase (fun e => by omega) (fun _ => ⟨by omega, dcase (fun e => ?_) (fun e => ?_)⟩)
  · rcases tmod_emod x n h0 with ⟨_, q⟩ | ⟨q, _⟩
    · show Q (w64 (Int.tmod x n + n)) h
      rw [q, w64_of (by omega) (by omega)]; exact hQ
    · omega
  · rcases tmod_emod x n h0 with ⟨q, _⟩ | ⟨_, q⟩
    · omega
    · show Q (Int.tmod x n) h
      rw [q]; exact hQ
theorem cellsGo_le (most : Int) : ∀ (k : Nat) (n c : Int), 1 ≤ c → c ≤ most → cellsGo most k n c ≤ n + 4 * (most - c) + 1 + most
  | 0, n, c, h1, h2 => by rw [cellsGo]; omega
  | k + 1, n, c, h1, h2 => by
    rw [cellsGo]
    by_cases q : c < most
    · rw [if_pos q]
      by_cases r : most < 2 * c
      · rw [if_pos r, cellsGo_end (by omega)]; omega
      · rw [if_neg r]
        have := cellsGo_le most k (n + 1 + 2 * c) (2 * c) (by omega) (by omega)
        omega
    · rw [if_neg q]; omega
theorem cellsOf_bound {low most : Int} (h : CapE low most) : 4 + low ≤ cellsOf low most ∧ cellsOf low most ≤ 1048576 := by
  obtain ⟨h1, h2, h3⟩ := h
  have a := cellsGo_ge most 4096 (4 + low) low (by omega)
  have b := cellsGo_le most 4096 (4 + low) low h1 h2
  unfold cellsOf
  omega

structure RestOk (cs : List Int) : Prop where
  t0 : 0 ≤ gt cs 0
  bn : gt cs 1 ≤ 1000000000
  a3 : 3 ≤ cA cs
  c1 : 1 ≤ cC cs
  ln : cA cs + cC cs < (cs.length : Int)
  sz : cs.length ≤ 1048576
theorem gt_get {cs : List Int} {x : Int} (h0 : 0 ≤ x) (h : x < (cs.length : Int)) : cs[x.toNat]? = some (gt cs x) := by
  unfold gt
  rw [List.getElem?_eq_getElem (by omega)]; rfl
theorem range_map_snoc {f : Nat → Int} {n : Nat} : (List.range (n + 1)).map f = (List.range n).map f ++ [f n] := by
  rw [List.range_succ, List.map_append]; rfl

theorem dnew0_spec {h0 h : Heap} {b : Nat} {c l : Sl} {sz low most : Int} {cL cR cS cC cN} {v : Value} (k : ArC cL cR cS cC cN v b) (o : Ar h0 h b c l sz [] [] 0 false) (hz : sz ≤ 1048576) (hc : CapE low most) (hs : 4 + low ≤ sz)
    {c1 : Int → Int → Heap → (Bool → Heap → Prop) → Prop} (i1 : ∀ {a b h Q}, deque_capsOK.M a b h Q → c1 a b h Q) {Q : (Den K2 × (Int × Unit)) → Heap → Prop} (hQ : ∀ c' l' h', Ar h0 h' b c' l' sz (laid low []) [] 0 false → Step (fpA b c l) (fpA b c' l') h h' → Q ((0, (most, ())), (0, ())) h') : deque_New.M c1 cR cS v low most h Q := by
  obtain ⟨q1, q2, q3⟩ := hc
  refine ⟨k.iface, fun e => (by rw [k.some'] at e; cases e), fun _ => i1 (caps_spec (fun q => ⟨fun e => (by cases e), fun _ => ?_⟩) (fun q => absurd ⟨q1, q2, q3⟩ q))⟩
  have w1 : w64 (4 + low) = 4 + low := by rw [w64_of] <;> omega
  rw [w1]
  refine k.reserve o (Nat.zero_le _) (show (0 : Int) ≤ sz by omega) hz (fun e => absurd e (by omega)) (fun _ e => absurd e (by simp; omega)) fun c' l' h2 _ _ o2 s2 => ⟨fun e => absurd rfl (of_decide_eq_true e), fun _ => ?_⟩
  have w2 : w64 ((([] : List Int).length : Int) + 2) = 2 := by rw [w64_of] <;> simp
  have w3 : w64 ((([] : List Int).length : Int) + 3) = 3 := by rw [w64_of] <;> simp
  have hlen : ((([] : List Int) ++ List.replicate (4 + low).toNat (0 : Int)).length : Int) = 4 + low := by simp; omega
  dsimp only
  rw [w2, w3]
  refine k.store o2 (Nat.zero_le _) (fun e => absurd ⟨by omega, by rw [hlen]; omega⟩ e) fun l3 h3 _ o3 s3 => ⟨fun e => absurd rfl (of_decide_eq_true e), fun _ => ?_⟩
  refine k.store o3 (Nat.zero_le _) (fun e => absurd ⟨by omega, by rw [List.length_set, hlen]; omega⟩ e) fun l4 h4 _ o4 s4 => ⟨fun e => absurd rfl (of_decide_eq_true e), fun _ => ?_⟩
  exact hQ c' l4 h4 o4 ((s2.trans s3).trans s4)

def ps0 (low most : Int) (todos : List DTd) (thieves : Int) : PS :=
  { m := { sz := cellsOf low most, cs := laid low [], lg := [], who := 0, wt := true }, todos := todos, acts := List.replicate (1 + thieves).toNat (DOp.zero, -1), calls := [] }
def whos (thieves : Int) (picks : List Int) : List Nat := picks.map fun x => (x % (1 + thieves)).toNat
theorem laid_len (low : Int) (h : 1 ≤ low) : ((laid low []).length : Int) = 4 + low := by
  unfold laid
  rw [List.length_set, List.length_set]
  simp; omega
end Go.Mx

namespace Go.Mx

structure PI (most : Int) (p : PS) (N : Int) : Prop where
  pos : 0 < p.acts.length
  dg : DG most p.m.sz N p.m.cs (p.act 0).1
  os : OwnS most p.m.cs (p.act 0).1
  th : ∀ i, 1 ≤ i → i < p.acts.length → ThS p.m.cs (p.act 0).1 (p.act i).1
  mach : ∀ i, i < p.acts.length → Mach most (p.act i).1
  kind : ∀ i, 1 ≤ i → i < p.acts.length → (p.act i).1.pc ≠ 0 → (p.act i).1.kind = 3
  run : ∀ i, i < p.acts.length → ((p.act i).2 < 0 ↔ (p.act i).1.pc = 0)
  call : ∀ i, i < p.acts.length → (p.act i).2 < (p.calls.length : Int)
  wt : p.m.wt = true

theorem begin_eq {k pc base most v : Int} (h1 : 1 ≤ most) (h2 : most ≤ 4096) : DOp.begin k pc base most v = ⟨k, pc, base, most, v, 0, 0, 0, 0, 0, 0, 0, 0, false, 0, 0⟩ := by
  unfold DOp.begin
  rw [if_neg (by omega), if_neg (by omega)]

def PS.pre (most : Int) (p : PS) (n : Int) (who : Nat) : Option PS := if (p.act who).2 < 0 then p.begin most n who else some p
theorem DG.re {most sz N : Int} {cs : List Int} {own own' : DOp} (g : DG most sz N cs own) (hb : Bl cs own' = Bl cs own) (hn : newer own' = newer own) : DG most sz N cs own' := by
  obtain ⟨g1, g2, g3, g4, g5, g6, g7, g8, g9, g10, g11, g12, g13⟩ := g
  exact ⟨g1, g2, by rw [hb]; exact g3, by rw [hb]; exact g4, by rw [hb]; exact g5, g6, g7, g8, g9, by rw [hn]; exact g10, g11, g12, g13⟩
inductive PreR (most : Int) (p : PS) (n : Int) (who : Nat) (q : PS) : Prop
  | on (h : 0 ≤ (p.act who).2) (e : q = p)
  | push (w : who = 0) (h : (p.act 0).2 < 0) (t : DTd) (ts : List DTd) (et : p.todos = t :: ts) (k : t.1 = 0) (e : q = { p with todos := ts, acts := p.acts.set 0 (DOp.push 0 most t.2.1, (p.calls.length : Int)), calls := p.calls ++ [newCall 0 t.1 t.2.1 n] })
  | pop (w : who = 0) (h : (p.act 0).2 < 0) (t : DTd) (ts : List DTd) (et : p.todos = t :: ts) (k : ¬ t.1 = 0) (e : q = { p with todos := ts, acts := p.acts.set 0 (DOp.pop 0 most, (p.calls.length : Int)), calls := p.calls ++ [newCall 0 t.1 0 n] })
  | steal (w : who ≠ 0) (h : (p.act who).2 < 0) (e : q = { p with acts := p.acts.set who (DOp.steal 0 most, (p.calls.length : Int)), calls := p.calls ++ [newCall (who : Int) 2 0 n] })
structure GoR (most : Int) (q : PS) (n : Int) (who : Nat) (v : Int) (m' : AS) (x : DOp) (N : Int) : Prop where
  acc : arenaI { q.m with who := (who : Int) } (q.act who).1.req = (some v, m')
  ex : x = (q.act who).1.after v
  on : x.pc ≠ 0 → q.go n who = { q with m := m', acts := q.acts.set who (x, (q.act who).2) }
  off : x.pc = 0 → q.go n who = { q with m := m', acts := q.acts.set who (x, -1), calls := endAt q.calls (q.act who).2.toNat n x.code x.value }
  pi : PI most (q.go n who) (N + 1)
  own : who = 0 → OEff q.m.cs (q.act 0).1 m'.cs x
  thief : who ≠ 0 → TEff q.m.cs (q.act 0).1 (q.act who).1 m'.cs x
  cc : cC m'.cs = if who = 0 ∧ (q.act 0).1.kind = 1 ∧ (q.act 0).1.pc = 9 then (q.act 0).1.c2 else cC q.m.cs
  bl : Bl m'.cs (if who = 0 then x else (q.act 0).1) ≤ Bl q.m.cs (q.act 0).1 ∨ (who = 0 ∧ (q.act 0).1.kind = 1 ∧ (q.act 0).1.pc = 11 ∧ Bl m'.cs (if who = 0 then x else (q.act 0).1) ≤ Bl q.m.cs (q.act 0).1 + 1)
theorem ps0_pi {low most : Int} {todos : List DTd} {thieves : Int} (hc : CapE low most) (ht : 0 ≤ thieves) : PI most (ps0 low most todos thieves) 0 := by
  obtain ⟨c1, c2, c3⟩ := hc
  have hb := cellsOf_bound ⟨c1, c2, c3⟩
  have ea' : ∀ i, (ps0 low most todos thieves).act i = (DOp.zero, (-1 : Int)) := fun i => by
    show (List.replicate (1 + thieves).toNat (DOp.zero, (-1 : Int)))[i]?.getD (DOp.zero, -1) = _
    cases e : (List.replicate (1 + thieves).toNat (DOp.zero, (-1 : Int)))[i]? with
    | none => rfl
    | some y =>
      have := (List.mem_replicate.1 (List.mem_of_getElem? e)).2
      subst this
      rfl
  have ea : ∀ i, ((ps0 low most todos thieves).act i).1 = DOp.zero ∧ ((ps0 low most todos thieves).act i).2 = -1 := fun i => by rw [ea' i]; exact ⟨rfl, rfl⟩
  have hl : (([] : List Int) ++ List.replicate (4 + low).toNat 0).length = (4 + low).toNat := by simp
  have s2 : ∀ y, 0 ≤ y → gt (laid low []) y = if y = 3 then low else if y = 2 then 3 else 0 := fun y hy => by
    unfold laid
    show gt ((((([] : List Int) ++ List.replicate (4 + low).toNat 0).set (0 + 2) (0 + 3)).set (0 + 3) low)) y = _
    have a := gt_set (cs := (([] : List Int) ++ List.replicate (4 + low).toNat 0).set (2 : Int).toNat 3) (x := 3) (v := low) (y := y) (by omega) (by rw [List.length_set, hl]; omega) hy
    have b := gt_set (cs := (([] : List Int) ++ List.replicate (4 + low).toNat 0)) (x := 2) (v := 3) (y := y) (by omega) (by rw [hl]; omega) hy
    rw [gt_app] at b
    have z : gt ([] : List Int) y = 0 := rfl
    rw [z] at b
    rw [b] at a
    exact a
  have g0 : gt (laid low []) 0 = 0 := by rw [s2 0 (by omega)]; rfl
  have g1 : gt (laid low []) 1 = 0 := by rw [s2 1 (by omega)]; rfl
  have gA : cA (laid low []) = 3 := by show gt _ 2 = 3; rw [s2 2 (by omega)]; rfl
  have gC : cC (laid low []) = low := by show gt _ (cA _) = low; rw [gA, s2 3 (by omega)]; rfl
  have hp : 0 < (ps0 low most todos thieves).acts.length := by show 0 < (List.replicate _ _).length; rw [List.length_replicate]; omega
  refine ⟨hp, ?_, ?_, fun i _ _ => ?_, fun i _ => ?_, fun i _ _ q => ?_, fun i _ => ?_, fun i _ => ?_, rfl⟩
  · rw [(ea 0).1]
    have hB : Bl (laid low []) DOp.zero = 0 := (Bl_up (lowp (.inl rfl))).trans g1
    have hn : newer DOp.zero = 0 := new0 (.inl (by decide))
    refine ⟨c3, ?_, ?_, ?_, ?_, by omega, ?_, ?_, ?_, ?_, hb.2, ?_, ?_⟩
    · show 0 ≤ gt (laid low []) 0; omega
    · show gt (laid low []) 0 ≤ Bl (laid low []) _; omega
    · show Bl (laid low []) _ - gt (laid low []) 0 ≤ cC (laid low []); omega
    · show Bl (laid low []) _ ≤ 0; omega
    · show 3 ≤ cA (laid low []); omega
    · show 1 ≤ cC (laid low []); omega
    · show cC (laid low []) ≤ most; omega
    · show ((laid low []).length : Int) = cA (laid low []) + cC (laid low []) + 1 + newer _; rw [laid_len low c1]; omega
    · show ((laid low []).length : Int) ≤ cellsOf low most; rw [laid_len low c1]; omega
    · show ∃ k : Nat, most - cC (laid low []) ≤ (k : Int) ∧ cellsGo most k (cA (laid low []) + cC (laid low []) + 1) (cC (laid low [])) = cellsOf low most
      rw [gA, gC]
      refine ⟨4096, by omega, ?_⟩
      unfold cellsOf
      congr 1; omega
  · rw [(ea 0).1]; exact .idle rfl
  · rw [(ea i).1]; exact .idle rfl
  · rw [(ea i).1]; exact fun q => absurd rfl q
  · rw [(ea i).1] at q; exact absurd rfl q
  · rw [(ea i).1, (ea i).2]; exact ⟨fun _ => rfl, fun _ => by decide⟩
  · rw [(ea i).2]; show (-1 : Int) < 0; decide

end Go.Mx
