/-
  deque.Play: what a play comes to.
-/
import Derived.Test.YtjkecefbbijajaaMxQi
import Derived.Test.YtjkecefbbijajaaMxQd
set_option linter.unusedVariables false
set_option linter.unusedSimpArgs false
set_option linter.unusedSectionVars false
namespace Go.Mx

/-! ### small things -/
theorem tmod_emod (x n : Int) (h : 0 < n) : Int.tmod x n < 0 ∧ Int.tmod x n + n = x % n ∨ 0 ≤ Int.tmod x n ∧ Int.tmod x n = x % n := by
  rcases Int.lt_or_le x 0 with hx | hx
  · have h1 : Int.tmod x n = -(Int.tmod (-x) n) := by rw [Int.neg_tmod]; omega
    have h2 : Int.tmod (-x) n = (-x) % n := Int.tmod_eq_emod_of_nonneg (by omega)
    have h3 := Int.emod_nonneg (-x) (b := n) (by omega)
    have h4 := Int.emod_lt_of_pos (-x) h
    have h5 := Int.emod_nonneg x (b := n) (by omega)
    have h6 := Int.emod_lt_of_pos x h
    have h7 := Int.emod_def (-x) n
    have h8 := Int.emod_def x n
    by_cases z : (-x) % n = 0
    · right
      have : x % n = 0 := by
        have h9 : x % n = n * ((-x) / n) * -1 + x % n - x + x - n * ((-x) / n) * -1 := by omega
        have h10 : (-x) = n * ((-x) / n) := by omega
        have h11 : x = n * (-((-x) / n)) := by rw [Int.mul_neg]; omega
        rw [h11]; exact Int.mul_emod_right _ _
      omega
    · left
      refine ⟨by omega, ?_⟩
      -- x % n = n - (-x) % n
      have h10 : x = n * (-((-x) / n) - 1) + (n - (-x) % n) := by rw [Int.mul_sub, Int.mul_neg]; omega
      have h11 : x % n = (n - (-x) % n) := by
        conv => lhs; rw [h10]
        rw [Int.mul_add_emod_self_left]
        exact Int.emod_eq_of_lt (by omega) (by omega)
      omega
  · right
    have h2 : Int.tmod x n = x % n := Int.tmod_eq_emod_of_nonneg hx
    have h5 := Int.emod_nonneg x (b := n) (by omega)
    omega
theorem mod_range {x n : Int} (h : 0 < n) : 0 ≤ x % n ∧ x % n < n := ⟨Int.emod_nonneg x (by omega), Int.emod_lt_of_pos x h⟩
theorem opsMod_spec {x n : Int} (h0 : 0 < n) (h1 : n ≤ 1000000000) {h : Heap} {Q : Int → Heap → Prop} (hQ : Q (x % n) h) : ops_Mod.M x n h Q := by
  have hr := mod_range (x := x) h0
  refine dcase (fun e => by omega) (fun _ => ⟨by omega, dcase (fun e => ?_) (fun e => ?_)⟩)
  · rcases tmod_emod x n h0 with ⟨_, q⟩ | ⟨q, _⟩
    · show Q (w64 (Int.tmod x n + n)) h
      rw [q, w64_of (by omega) (by omega)]; exact hQ
    · omega
  · rcases tmod_emod x n h0 with ⟨q, _⟩ | ⟨_, q⟩
    · omega
    · show Q (Int.tmod x n) h
      rw [q]; exact hQ
theorem cellsGo_le (most : Int) : ∀ (k : Nat) (n c : Int), 1 ≤ c → c ≤ most → cellsGo most k n c ≤ n + 4 * (most - c) + 1 + most
  | 0, n, c, h1, h2 => by rw [cellsGo]; omega
  | k + 1, n, c, h1, h2 => by
    rw [cellsGo]
    by_cases q : c < most
    · rw [if_pos q]
      by_cases r : most < 2 * c
      · rw [if_pos r, cellsGo_end (by omega)]; omega
      · rw [if_neg r]
        have := cellsGo_le most k (n + 1 + 2 * c) (2 * c) (by omega) (by omega)
        omega
    · rw [if_neg q]; omega
theorem cellsOf_bound {low most : Int} (h : CapE low most) : 4 + low ≤ cellsOf low most ∧ cellsOf low most ≤ 1048576 := by
  obtain ⟨h1, h2, h3⟩ := h
  have a := cellsGo_ge most 4096 (4 + low) low (by omega)
  have b := cellsGo_le most 4096 (4 + low) low h1 h2
  unfold cellsOf
  omega

theorem gstep_spec {h0 h : Heap} {g b : Nat} {most : Int} {td ac ca c l : Sl} {p : PS} (o : Gm h0 h g b most td ac ca c l p) {N : Nat} (ok : PsOk p N) (hN : N ≤ 1000000 * 4) {who : Nat} (hw : who < p.acts.length) {n : Int}
    {c0 : Option Addr → Int → Int → Heap → (Bool → Heap → Prop) → Prop} {c1 : Option Addr → Int → Heap → (Unit → Heap → Prop) → Prop} {c2 : Value → Den KOp → Heap → (Den KOp → Heap → Prop) → Prop} {c3 : Den KOp → Heap → (Den KP2 → Heap → Prop) → Prop}
    {d1 : Den KP2 → Heap → (Den KOp → Heap → Prop) → Prop} {d2 : Den KP2 → Int → Heap → (Den KOp → Heap → Prop) → Prop} {d3 : Den KP2 → Heap → (Den KOp → Heap → Prop) → Prop}
    (j0 : ∀ {a n w h Q}, deque_game_begin.M d1 d2 d3 a n w h Q → c0 a n w h Q) (j1 : ∀ {base most h Q}, Q (DOp.steal base most).den h → d1 (base, (most, ())) h Q) (j2 : ∀ {base most v h Q}, Q (DOp.push base most v).den h → d2 (base, (most, ())) v h Q) (j3 : ∀ {base most h Q}, Q (DOp.pop base most).den h → d3 (base, (most, ())) h Q)
    (i1 : ∀ {h : Heap} {c l : Sl} {sz : Int} {cs : List Int} {lg : List Acc} {w0 : Int} {wt : Bool} {w : Int} {Q : Unit → Heap → Prop}, Ar h0 h b c l sz cs lg w0 wt → (∀ h', Ar h0 h' b c l sz cs lg w wt → Step (fpA b c l) (fpA b c l) h h' → Q () h') → c1 (some (ptr b)) w h Q)
    (i2 : ∀ {h : Heap} {s : AS} {S : Nat → Prop} {x : DOp} {Q : Den KOp → Heap → Prop}, RA h0 b s S h → s.lg.length ≤ 1000000000 → (s.cs.length : Int) ≤ s.sz → s.sz ≤ 1048576 → x.Ok → (∀ S' h', RA h0 b (stepD arenaI s x).1 S' h' → Step S S' h h' → Q (stepD arenaI s x).2.den h') → c2 (.iface 54 (.pointer (some (ptr b)))) x.den h Q)
    (i3 : ∀ {x : DOp} {h : Heap} {Q : Den KP2 → Heap → Prop}, Q (x.answer.1, (x.answer.2, ())) h → c3 x.den h Q)
    {Q : Unit → Heap → Prop} (hQ : ∀ td' ca' c' l' h', Gm h0 h' g b most td' ac ca' c' l' (p.step most n who) → Step (fpG g b ac ca c l) (fpG g b ac ca' c' l') h h' → Q () h') : deque_game_step.M c0 c1 c2 c3 (some (ptr g)) n (who : Int) h Q := by
  have hal := o.acts.len
  rw [List.length_map] at hal
  obtain ⟨a, ha⟩ := o.acts.own.addr (by omega)
  have hgx : (p.acts.map actDen)[who]? = some (actDen (p.act who)) := by rw [List.getElem?_map, act_get hw]; rfl
  refine o.lda ⟨⟨by omega, by omega⟩, ?_⟩
  rw [ha]
  simp only [deref]
  rw [Int.toNat_natCast]
  refine o.acts.arr.ldPart (kp := ki) (y := (p.act who).2) (off := 16) ha hgx ⟨(p.act who).1.den |> Kd.cells KOp, [], rfl, rfl⟩ rfl (dcase (p := (p.act who).2 < 0) (fun e => ?_) (fun e => ?_))
  · refine j0 (gbegin_spec o hw (by have := ok.cn; omega) j1 j2 j3 (fun q => ⟨fun _ => ?_, fun q => (by cases q)⟩) (fun td' ca' h' p' q o' s' => ⟨fun q => (by cases q), fun _ => ?_⟩))
    · have hs : p.step most n who = p := by unfold PS.step; rw [if_pos e, q]
      have := hQ td ca c l h
      rw [hs] at this
      exact this o (.refl _ _)
    · obtain ⟨ok', hl', _⟩ := ok.begin q
      have hs : p.step most n who = p'.go n who := by unfold PS.step; rw [if_pos e, q]
      have hc : 0 ≤ (p'.act who).2 := by
        unfold PS.begin at q
        split at q
        · rename_i hw0
          split at q
          · cases q
          · cases q
            subst hw0
            unfold PS.act
            dsimp only
            rw [List.getElem?_set_self hw]
            exact Int.natCast_nonneg _
        · cases q
          unfold PS.act
          dsimp only
          rw [List.getElem?_set_self hw]
          exact Int.natCast_nonneg _
      refine go_spec o' ok' (by omega) (by omega) hc i1 i2 i3 fun c' l' h2 o2 s2 => hQ td' ca' c' l' h2 ?_ (s'.trans s2)
      rw [hs]; exact o2
  · have hs : p.step most n who = p.go n who := by unfold PS.step; rw [if_neg e]
    refine ⟨fun q => (by cases q), fun _ => go_spec o ok (by omega) hw (by omega) i1 i2 i3 fun c' l' h2 o2 s2 => hQ td ca c' l' h2 ?_ s2⟩
    rw [hs]; exact o2

/-! ### what is left -/
structure RestOk (cs : List Int) : Prop where
  t0 : 0 ≤ gt cs 0
  bn : gt cs 1 ≤ 1000000000
  a3 : 3 ≤ cA cs
  c1 : 1 ≤ cC cs
  ln : cA cs + cC cs < (cs.length : Int)
  sz : cs.length ≤ 1048576
theorem DG.rest {most sz N : Int} {cs : List Int} {own : DOp} (g : DG most sz N cs own) (hn : 0 ≤ newer own) (hb : gt cs 1 ≤ Bl cs own + 1) (hN : N ≤ 900000000) : RestOk cs := by
  obtain ⟨g1, g2, g3, g4, g5, g6, g7, g8, g9, g10, g11, g12, g13⟩ := g
  exact ⟨g2, by omega, g7, g8, by omega, by omega⟩
theorem gt_get {cs : List Int} {x : Int} (h0 : 0 ≤ x) (h : x < (cs.length : Int)) : cs[x.toNat]? = some (gt cs x) := by
  unfold gt
  rw [List.getElem?_eq_getElem (by omega)]; rfl
theorem range_map_snoc {f : Nat → Int} {n : Nat} : (List.range (n + 1)).map f = (List.range n).map f ++ [f n] := by
  rw [List.range_succ, List.map_append]; rfl
theorem grest_spec {h0 h : Heap} {g b : Nat} {most : Int} {td ac ca c l : Sl} {p : PS} (o : Gm h0 h g b most td ac ca c l p) (hr : RestOk p.m.cs) {c1 : Option Addr → Heap → (Sl → Heap → Prop) → Prop} {c2 : Int → Int → Int → Heap → (Int → Heap → Prop) → Prop}
    (i1 : ∀ {h : Heap} {Q : Sl → Heap → Prop}, Ar h0 h b c l p.m.sz p.m.cs p.m.lg p.m.who p.m.wt → p.m.cs.length ≤ 1048576 → (∀ s h', New h h' ki s p.m.cs → Q s h') → c1 (some (ptr b)) h Q) (i2 : ∀ {a c i h Q}, deque_place.M a c i h Q → c2 a c i h Q)
    {Q : Sl → Heap → Prop} (hQ : ∀ s h', New h h' ki s (ctn p.m.cs) → Q s h') : deque_game_rest.M c1 c2 (some (ptr g)) h Q := by
  obtain ⟨t0, bn, a3, c1', ln, sz⟩ := hr
  refine o.ldm (i1 o.ar sz fun s h1 n1 => ?_)
  have hsl := n1.len
  have hob : Obj h1 g KGm (some (ptr b), ((0, (most, ())), (td, (ac, (ca, ()))))) := o.obj.le n1.le
  have ldb : ∀ {k : Heap} {K : Int → Prop}, le h1 k → K 0 → ld ki k (((ptr g).add 1).add 0) K := fun {k K} l hK => by
    rw [add_add']
    exact (hob.le l).ld (kf := ki) (y := (0 : Int)) ⟨[.pointer (some (ptr b))], [.int .i64 most, td.val, ac.val, ca.val], rfl, rfl⟩ hK
  have rd : ∀ {k : Heap} {x : Int} {K : Int → Prop}, le h1 k → 0 ≤ x → x < (p.m.cs.length : Int) → K (gt p.m.cs x) → deref s.a fun a => ld ki k (a.add (x.toNat * 1)) K := fun {k x K} l x0 x1 hK => by
    refine (n1.arr.le l).at (i := x) x0 (by omega) rfl fun y hy => ?_
    rw [gt_get x0 x1] at hy; cases hy; exact hK
  have w2 : w64 ((0 : Int) + 2) = 2 := by rw [w64_of] <;> omega
  have w1 : w64 ((0 : Int) + 1) = 1 := by rw [w64_of] <;> omega
  have w0 : w64 ((0 : Int) + 0) = 0 := by rw [w64_of] <;> omega
  have lr := le.refl h1
  refine ldb lr (dcase (fun e => ?_) (fun e => ?_))
  · rw [w2] at e; omega
  · refine ldb lr ?_
    rw [w2]
    refine ⟨⟨by omega, by omega⟩, rd lr (by omega) (by omega) (ldb lr ?_)⟩
    rw [w0]
    refine ⟨⟨by omega, by omega⟩, rd lr (by omega) (by omega) ?_⟩
    refine Loop.up (gt p.m.cs 1 - gt p.m.cs 0).toNat (fun s => s.2.1 - gt p.m.cs 0) (fun i s k => New h1 k ki s.1 ((List.range i).map fun (k : Nat) => cE p.m.cs (gt p.m.cs 0 + (k : Int)))) (Int.sub_self _) (New.nil h1 ki) ?_
    rintro i ⟨acc, j, u⟩ k go hi hc na hgo
    dsimp only at hc na
    have lk := na.le
    obtain rfl : j = gt p.m.cs 0 + (i : Int) := by omega
    refine ldb lk ?_
    rw [w1]
    refine ⟨⟨by omega, by omega⟩, rd lk (by omega) (by omega) (dcase (fun e => ?_) (fun e => ?_))⟩
    · have e : gt p.m.cs 0 + (i : Int) < gt p.m.cs 1 := e
      refine ⟨⟨(show (0 : Int) ≤ cA p.m.cs by omega), (show cA p.m.cs < (s.len : Int) by omega)⟩, rd lk (show (0 : Int) ≤ cA p.m.cs by omega) (show cA p.m.cs < (p.m.cs.length : Int) by omega) (i2 (place_spec c1' ?_))⟩
      have hpl : placeD (cA p.m.cs) (cC p.m.cs) (gt p.m.cs 0 + (i : Int)) = pl (cA p.m.cs) (cC p.m.cs) (gt p.m.cs 0 + (i : Int)) := placeD_pl (by omega) (by omega) c1' (by omega) (by omega)
      have hpr := pl_range (a := cA p.m.cs) (i := gt p.m.cs 0 + (i : Int)) c1'
      show (0 ≤ placeD (cA p.m.cs) (cC p.m.cs) (gt p.m.cs 0 + (i : Int)) ∧ placeD (cA p.m.cs) (cC p.m.cs) (gt p.m.cs 0 + (i : Int)) < (s.len : Int)) ∧ _
      rw [hpl]
      have hacl := na.len
      rw [List.length_map, List.length_range] at hacl
      refine ⟨⟨by omega, by omega⟩, rd lk (by omega) (by omega) (na.app rfl rfl (by omega) fun t k2 n2 => ?_)⟩
      refine hgo (by omega) _ _ ?_ ?_
      · show w64 (gt p.m.cs 0 + (i : Int) + 1) - gt p.m.cs 0 = _
        rw [w64_of] <;> omega
      · dsimp only
        rw [range_map_snoc]; exact n2
    · have e : ¬ gt p.m.cs 0 + (i : Int) < gt p.m.cs 1 := e
      obtain rfl : i = (gt p.m.cs 1 - gt p.m.cs 0).toNat := by omega
      exact hQ acc k (na.base n1.le)

/-! ### the error, the beginning -/
def judgeE (low most : Int) (todos : List DTd) (thieves : Int) (picks : List Int) : Int :=
  if 4096 < todos.length ∨ 1048576 < picks.length then 2 else if ¬ CapE low most then 30 else if thieves < 0 ∨ 3 < thieves then 3 else if ∃ t ∈ todos, t.1 ≠ 0 ∧ t.1 ≠ 1 then 31 else 0
theorem judged_spec {low most thieves : Int} {td pk : Sl} {h : Heap} {todos : List DTd} {picks : List Int} (ht : Arr h KTd td todos) (hp : Arr h ki pk picks) {c1 : Int → Int → Heap → (Bool → Heap → Prop) → Prop} (i1 : ∀ {a b h Q}, deque_capsOK.M a b h Q → c1 a b h Q)
    {Q : Int → Heap → Prop} (hQ : Q (judgeE low most todos thieves picks) h) : deque_judged.M c1 low most td thieves pk h Q := by
  have htl := ht.1
  have hpl := hp.1
  have j6 : ∀ b : Bool, b = decide (4096 < todos.length ∨ 1048576 < picks.length) → deque_judged.j6 c1 low most td thieves Q (b, ()) h := by
    rintro b rfl
    refine dcase (fun e => ?_) (fun e => ?_)
    · unfold judgeE at hQ; rw [if_pos e] at hQ; exact hQ
    · refine i1 (caps_spec (fun q => ⟨fun z => (by cases z), fun _ => ?_⟩) (fun q => ⟨fun _ => ?_, fun z => (by cases z)⟩))
      · have j5 : ∀ b : Bool, b = decide (thieves < 0 ∨ 3 < thieves) → deque_judged.j5 td Q (b, ()) h := by
          rintro b rfl
          refine dcase (fun f => ?_) (fun f => ?_)
          · unfold judgeE at hQ; rw [if_neg e, if_neg (fun n => n q), if_pos f] at hQ; exact hQ
          · refine Loop.up todos.length (fun s => s.1) (fun i s k => k = h ∧ ∀ (j : Nat) t, j < i → todos[j]? = some t → t.1 = 0 ∨ t.1 = 1) rfl ⟨rfl, fun j t hj => absurd hj (Nat.not_lt_zero _)⟩ ?_
            rintro i ⟨i', u⟩ k go hi hc ⟨rfl, hI⟩ hgo
            dsimp only at hc; subst hc
            refine dcase (fun g => ?_) (fun g => ?_)
            · have g : (i : Int) < (td.len : Int) := g
              refine ⟨⟨by omega, g⟩, ht.at (by omega) g rfl fun t hx => ?_⟩
              rw [Int.toNat_natCast] at hx
              have bad : ¬ (t.1 = 0 ∨ t.1 = 1) → Q 31 k := fun n => by
                unfold judgeE at hQ
                rw [if_neg e, if_neg (fun n => n q), if_neg f, if_pos ⟨t, List.mem_of_getElem? hx, not_or.1 n⟩] at hQ; exact hQ
              have good : t.1 = 0 ∨ t.1 = 1 → deque_judged.j2 Q go ((i : Int), u) (false, ()) k := fun n => ⟨fun z => (by cases z), fun _ => hgo (by omega) _ _ (by show w64 ((i : Int) + 1) = _; rw [w64_of] <;> omega) ⟨rfl, fun j t' hj hx' => by
                by_cases z : j = i
                · subst z; rw [hx] at hx'; cases hx'; exact n
                · exact hI j t' (by omega) hx'⟩⟩
              refine dcase (fun n => ?_) (fun n => good (.inl (Decidable.not_not.1 n)))
              have n : t.1 ≠ 0 := n
              by_cases m : t.1 = 1
              · have : decide (t.1 ≠ 1) = false := decide_eq_false (fun q => q m)
                rw [this]
                exact good (.inr m)
              · have : decide (t.1 ≠ 1) = true := decide_eq_true m
                rw [this]
                exact ⟨fun _ => bad (fun q => q.elim n m), fun z => (by cases z)⟩
            · have g : ¬ (i : Int) < (td.len : Int) := g
              unfold judgeE at hQ
              rw [if_neg e, if_neg (fun n => n q), if_neg f, if_neg] at hQ
              · exact hQ
              · rintro ⟨t, ht', hn⟩
                obtain ⟨j, hj⟩ := List.mem_iff_getElem?.1 ht'
                exact (hI j t (by have := (List.getElem?_eq_some_iff.1 hj).1; omega) hj).elim hn.1 hn.2
        refine dcase (fun f => j5 _ ?_) (fun f => j5 _ ?_)
        · simp [f]
        · simp [f]
      · unfold judgeE at hQ; rw [if_neg e, if_pos q] at hQ; exact hQ
  refine dcase (fun f => j6 _ ?_) (fun f => j6 _ ?_)
  · have f : (4096 : Int) < (td.len : Int) := f
    rw [decide_eq_true]; exact .inl (by omega)
  · have f : ¬ (4096 : Int) < (td.len : Int) := f
    by_cases q : (1048576 : Int) < (pk.len : Int)
    · rw [decide_eq_true q, decide_eq_true]; exact .inr (by omega)
    · rw [decide_eq_false q, decide_eq_false]; omega

/-- New over an arena that is not watched. -/
theorem dnew0_spec {h0 h : Heap} {b : Nat} {c l : Sl} {sz low most : Int} {cL cR cS cC cN} {v : Value} (k : ArC cL cR cS cC cN v b) (o : Ar h0 h b c l sz [] [] 0 false) (hz : sz ≤ 1048576) (hc : CapE low most) (hs : 4 + low ≤ sz)
    {c1 : Int → Int → Heap → (Bool → Heap → Prop) → Prop} (i1 : ∀ {a b h Q}, deque_capsOK.M a b h Q → c1 a b h Q) {Q : (Den K2 × (Int × Unit)) → Heap → Prop} (hQ : ∀ c' l' h', Ar h0 h' b c' l' sz (laid low []) [] 0 false → Step (fpA b c l) (fpA b c' l') h h' → Q ((0, (most, ())), (0, ())) h') : deque_New.M c1 cR cS v low most h Q := by
  obtain ⟨q1, q2, q3⟩ := hc
  refine ⟨k.iface, fun e => (by rw [k.some'] at e; cases e), fun _ => i1 (caps_spec (fun q => ⟨fun e => (by cases e), fun _ => ?_⟩) (fun q => absurd ⟨q1, q2, q3⟩ q))⟩
  have w1 : w64 (4 + low) = 4 + low := by rw [w64_of] <;> omega
  rw [w1]
  refine k.reserve o (Nat.zero_le _) (show (0 : Int) ≤ sz by omega) hz (fun e => absurd e (by omega)) (fun _ e => absurd e (by simp; omega)) fun c' l' h2 _ _ o2 s2 => ⟨fun e => absurd rfl (of_decide_eq_true e), fun _ => ?_⟩
  have w2 : w64 ((([] : List Int).length : Int) + 2) = 2 := by rw [w64_of] <;> simp
  have w3 : w64 ((([] : List Int).length : Int) + 3) = 3 := by rw [w64_of] <;> simp
  have hlen : ((([] : List Int) ++ List.replicate (4 + low).toNat (0 : Int)).length : Int) = 4 + low := by simp; omega
  dsimp only
  rw [w2, w3]
  refine k.store o2 (Nat.zero_le _) (fun e => absurd ⟨by omega, by rw [hlen]; omega⟩ e) fun l3 h3 _ o3 s3 => ⟨fun e => absurd rfl (of_decide_eq_true e), fun _ => ?_⟩
  refine k.store o3 (Nat.zero_le _) (fun e => absurd ⟨by omega, by rw [List.length_set, hlen]; omega⟩ e) fun l4 h4 _ o4 s4 => ⟨fun e => absurd rfl (of_decide_eq_true e), fun _ => ?_⟩
  exact hQ c' l4 h4 o4 ((s2.trans s3).trans s4)

/-- Where a play begins. -/
def ps0 (low most : Int) (todos : List DTd) (thieves : Int) : PS :=
  { m := { sz := cellsOf low most, cs := laid low [], lg := [], who := 0, wt := true }, todos := todos, acts := List.replicate (1 + thieves).toNat (DOp.zero, -1), calls := [] }
def whos (thieves : Int) (picks : List Int) : List Nat := picks.map fun x => (x % (1 + thieves)).toNat
theorem laid_len (low : Int) (h : 1 ≤ low) : ((laid low []).length : Int) = 4 + low := by
  unfold laid
  rw [List.length_set, List.length_set]
  simp; omega
theorem ps0_ok {low most : Int} {todos : List DTd} {thieves : Int} (hc : CapE low most) (ht : 0 ≤ thieves) : PsOk (ps0 low most todos thieves) 0 := by
  have hb := cellsOf_bound hc
  refine ⟨⟨Nat.le_refl _, ?_, hb.2⟩, fun a ha => ?_, fun a ha => ?_, Nat.le_refl _⟩
  · show ((laid low []).length : Int) ≤ cellsOf low most
    rw [laid_len low hc.1]; exact hb.1
  · rw [(List.mem_replicate.1 ha).2]; exact ⟨.zero, by decide⟩
  · rw [(List.mem_replicate.1 ha).2]; show (-1 : Int) < 0; decide
theorem run_ok {most : Int} : ∀ (ws : List Nat) {p : PS} {n N : Nat}, PsOk p N → (∀ w ∈ ws, w < p.acts.length) → PsOk (p.run most n ws) (N + 2 * ws.length) ∧ (p.run most n ws).acts.length = p.acts.length
  | [], p, n, N, h, _ => ⟨h, rfl⟩
  | w :: ws, p, n, N, h, hw => by
    have h1 := h.step (most := most) (k := (n : Int)) (hw w (by simp))
    have h2 := run_ok (most := most) ws (n := n + 1) h1.1 (fun x hx => by rw [h1.2]; exact hw x (by simp [hx]))
    refine ⟨?_, h2.2.trans h1.2⟩
    have : N + 2 + 2 * ws.length = N + 2 * (w :: ws).length := by simp only [List.length_cons]; omega
    rw [← this]; exact h2.1

end Go.Mx
