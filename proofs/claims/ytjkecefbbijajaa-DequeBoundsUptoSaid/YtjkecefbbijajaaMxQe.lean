/-
  The deque alone: a step of the owner's machine.
-/
import Derived.Test.YtjkecefbbijajaaMxQd
set_option linter.unusedVariables false
set_option linter.unusedSimpArgs false
set_option linter.unusedSectionVars false
namespace Go.Mx

/-! ### accesses -/
def acc (s : AS) (k a x y : Int) (ok : Bool) : Acc := (s.who, (k, (a, (x, (y, (ok, ()))))))
theorem ld_ok {s : AS} {a : Int} (h : 0 ≤ a ∧ a < (s.cs.length : Int)) : arenaI s (.ld a) = (some (gt s.cs a), s.log (acc s 0 a (gt s.cs a) 0 true)) := if_pos h
theorem st_ok {s : AS} {a v : Int} (h : 0 ≤ a ∧ a < (s.cs.length : Int)) : arenaI s (.st a v) = (some 0, AS.log { s with cs := s.cs.set a.toNat v } (acc s 1 a v 0 true)) := if_pos h
theorem cas_ok {s : AS} {a x y : Int} (h : 0 ≤ a ∧ a < (s.cs.length : Int)) (e : gt s.cs a = x) : arenaI s (.cas a x y) = (some 1, AS.log { s with cs := s.cs.set a.toNat y } (acc s 2 a x y true)) := by
  have : arenaI s (.cas a x y) = (some (if s.at' a = x then 1 else 0), AS.log { s with cs := if s.at' a = x then s.cs.set a.toNat y else s.cs } (s.who, (2, (a, (x, (y, (decide (s.at' a = x), ()))))))) := if_pos h
  rw [this, show s.at' a = x from e, if_pos rfl, if_pos rfl]
  simp [acc]
theorem cas_no {s : AS} {a x y : Int} (h : 0 ≤ a ∧ a < (s.cs.length : Int)) (e : gt s.cs a ≠ x) : arenaI s (.cas a x y) = (some 0, AS.log s (acc s 2 a x y false)) := by
  have : arenaI s (.cas a x y) = (some (if s.at' a = x then 1 else 0), AS.log { s with cs := if s.at' a = x then s.cs.set a.toNat y else s.cs } (s.who, (2, (a, (x, (y, (decide (s.at' a = x), ()))))))) := if_pos h
  have e : ¬ s.at' a = x := e
  rw [this, if_neg e, if_neg e, decide_eq_false e]
  rfl
theorem rs_ok {s : AS} {n : Int} (h1 : 1 ≤ n) (h2 : n ≤ s.sz - (s.cs.length : Int)) : arenaI s (.rs n) = (some (s.cs.length : Int), AS.log { s with cs := s.cs ++ List.replicate n.toNat 0 } (acc s 4 (s.cs.length : Int) n 0 true)) := by
  show (if n < 1 then _ else if s.sz - (s.cs.length : Int) < n then _ else _) = _
  rw [if_neg (by omega), if_neg (by omega)]; rfl
theorem not_zero {o : DOp} (p : o.pc ≠ 0) : o ≠ DOp.zero := fun e => p (by rw [e]; rfl)
theorem step_some {s s' : AS} {o : DOp} {g : Int} (p : o.pc ≠ 0) (h : arenaI s o.req = (some g, s')) : stepD arenaI s o = (s', o.after g) := by
  unfold stepD
  rw [if_neg (not_zero p), if_neg p, h]

section
variable {o : DOp} (b : o.base = 0)
include b
theorem req1 (p : o.pc = 1) : o.req = .ld 1 := by unfold DOp.req; rw [if_pos p, b]; rfl
theorem req2 (p : o.pc = 2) : o.req = .ld 0 := by unfold DOp.req; rw [p, b]; rfl
theorem req3 (p : o.pc = 3) : o.req = .ld 2 := by unfold DOp.req; rw [p, b]; rfl
theorem req4 (p : o.pc = 4) : o.req = .ld o.a := by unfold DOp.req; rw [p]; rfl
theorem req5 (p : o.pc = 5) : o.req = .rs (w64 (1 + o.c2)) := by unfold DOp.req; rw [p]; rfl
theorem req6 (p : o.pc = 6) : o.req = .st o.a2 o.c2 := by unfold DOp.req; rw [p]; rfl
theorem req7 (p : o.pc = 7) : o.req = .ld (placeD o.a o.c o.i) := by unfold DOp.req; rw [p]; rfl
theorem req8 (p : o.pc = 8) : o.req = .st (placeD o.a2 o.c2 o.i) o.x := by unfold DOp.req; rw [p]; rfl
theorem req9 (p : o.pc = 9) : o.req = .st 2 o.a2 := by unfold DOp.req; rw [p, b]; rfl
theorem req10 (p : o.pc = 10) : o.req = .st (placeD o.a o.c o.b) o.v := by unfold DOp.req; rw [p]; rfl
theorem req11 (p : o.pc = 11) : o.req = .st 1 o.next := by unfold DOp.req; rw [p, b]; rfl
theorem req12 (p : o.pc = 12) : o.req = .ld (placeD o.a o.c (if o.kind = 2 then o.b else o.t)) := by unfold DOp.req; rw [p]; rfl
theorem req13 (p : o.pc = 13) : o.req = .cas 0 o.t (w64 (o.t + 1)) := by unfold DOp.req; rw [p, b]; rfl
end

theorem DG.own {most sz N : Int} {cs : List Int} {own own' : DOp} (g : DG most sz N cs own) (hb : Bl cs own' = Bl cs own) (hn : newer own' = newer own) (nn : N + 1 ≤ 1000000000) : DG most sz (N + 1) cs own' := by
  obtain ⟨g1, g2, g3, g4, g5, g6, g7, g8, g9, g10, g11, g12, g13⟩ := g
  exact ⟨g1, g2, by rw [hb]; exact g3, by rw [hb]; exact g4, by rw [hb]; omega, nn, g7, g8, g9, by rw [hn]; exact g10, g11, g12, g13⟩

/-- What a step of the owner does. -/
inductive OEff (cs : List Int) (own : DOp) (cs' : List Int) (own' : DOp) : Prop
  | same (p : own'.pc ≠ 0) (c : ctn cs' = ctn cs) (h : hand cs' own' = hand cs own) (t : gt cs' 0 = gt cs 0)
  | push (k : own.kind = 1) (p : own'.pc = 0) (co : own'.code = 2) (va : own'.value = 0) (c : ctn cs' = ctn cs ++ [own.v]) (h : hand cs own = []) (h' : hand cs' own' = []) (t : gt cs' 0 = gt cs 0) (fb : own.b - own.t < own.most) (p11 : own.pc = 11)
  | full (k : own.kind = 1) (p : own'.pc = 0) (co : own'.code = 3) (va : own'.value = 0) (c : ctn cs' = ctn cs) (h : hand cs own = []) (h' : hand cs' own' = []) (t : gt cs' 0 = gt cs 0) (fb : own.b - own.t = own.most) (fc : cC cs = own.most) (bb : own.b = gt cs 1) (t0 : 0 ≤ own.t) (p4 : own.pc = 4)
  | low (k : own.kind = 2) (p : own'.pc ≠ 0) (h : hand cs own = []) (c : ctn cs = ctn cs' ++ hand cs' own') (t : gt cs' 0 = gt cs 0)
  | got (k : own.kind = 2) (p : own'.pc = 0) (co : own'.code = 4) (c : ctn cs' = ctn cs) (h : hand cs own = [own'.value]) (h' : hand cs' own' = []) (t : gt cs' 0 = gt cs 0) (tb : own.t < own.b ∧ own.pc = 12 ∨ own.t = own.b ∧ own.pc = 11 ∧ own.i = 1 ∧ own.won = true)
  | empty (k : own.kind = 2) (p : own'.pc = 0) (co : own'.code = 5) (va : own'.value = 0) (c : ctn cs' = ctn cs) (h : hand cs own = []) (h' : hand cs' own' = []) (t : gt cs' 0 = gt cs 0) (tb : own.t = own.b + 1 ∨ own.t = own.b ∧ own.won = false) (p11 : own.pc = 11) (i1 : own.i = 1)
  | won (k : own.kind = 2) (p : own'.pc ≠ 0) (c : ctn cs' = ctn cs) (h : hand cs' own' = hand cs own) (t : gt cs' 0 = gt cs 0 + 1)
structure OwnR (most sz N : Int) (s : AS) (own : DOp) (s' : AS) (o' : DOp) : Prop where
  dg : DG most sz (N + 1) s'.cs o'
  os : OwnS most s'.cs o'
  th : ∀ th, ThS s.cs own th → ThS s'.cs o' th
  eff : OEff s.cs own s'.cs o'
  cc : cC s'.cs = if own.kind = 1 ∧ own.pc = 9 then own.c2 else cC s.cs
  bl : Bl s'.cs o' ≤ Bl s.cs own ∨ (own.kind = 1 ∧ own.pc = 11 ∧ Bl s'.cs o' ≤ Bl s.cs own + 1)

theorem Bl_up {cs : List Int} {o : DOp} (h : ¬ lowered o) : Bl cs o = gt cs 1 := if_neg h
theorem Bl_lo {cs : List Int} {o : DOp} (h : lowered o) : Bl cs o = o.b + 1 := if_pos h
theorem low1 {o : DOp} (k : o.kind = 1) : ¬ lowered o := fun h => by have := h.1; omega
theorem lowp {o : DOp} (h : o.pc = 0 ∨ o.pc = 1 ∨ o.pc = 3 ∨ (o.pc = 11 ∧ o.i = 0)) : ¬ lowered o := fun q => by
  obtain ⟨_, q | q | q⟩ := q <;> omega
theorem new0 {o : DOp} (h : o.kind ≠ 1 ∨ o.pc < 6 ∨ 9 < o.pc) : newer o = 0 := by
  unfold newer; exact if_neg (by omega)
theorem hand1 {cs : List Int} {o : DOp} (k : o.kind = 1) : hand cs o = [] := by
  unfold hand; rw [if_neg (by omega), if_neg (by omega)]
theorem handp {cs : List Int} {o : DOp} (h : o.pc = 0 ∨ o.pc = 1 ∨ o.pc = 3 ∨ (o.pc = 11 ∧ o.i = 0)) : hand cs o = [] := by
  unfold hand; rw [if_neg (by omega), if_neg (by omega)]
theorem hand2 {cs : List Int} {o : DOp} (k : o.kind = 2) (p : o.pc = 2 ∨ o.pc = 4 ∨ o.pc = 12 ∨ o.pc = 13) : hand cs o = if gt cs 0 ≤ o.b then [cE cs o.b] else [] := by
  unfold hand; rw [if_pos ⟨k, p⟩]
theorem hand11 {cs : List Int} {o : DOp} (k : o.kind = 2) (p : o.pc = 11) (i : o.i = 1) : hand cs o = if o.won = true then [o.x] else [] := by
  unfold hand
  rw [if_neg (by omega)]
  by_cases w : o.won = true
  · rw [if_pos w, if_pos ⟨k, p, by omega, w⟩]
  · rw [if_neg w, if_neg (fun q => w q.2.2.2)]

/-- A step that only reads. -/
theorem own_read {most sz N : Int} {s s' : AS} {own o' : DOp} (g : DG most sz N s.cs own) (nn : N + 1 ≤ 1000000000) (hc : s'.cs = s.cs) (hb : Bl s.cs o' ≤ Bl s.cs own) (ht : gt s.cs 0 ≤ Bl s.cs o') (hv : Av s.cs own (gt s.cs 0) → Av s.cs o' (gt s.cs 0)) (hn : newer o' = newer own) (os : OwnS most s.cs o') (p : o'.pc ≠ 0) (hh : hand s.cs o' = hand s.cs own) (n9 : ¬ (own.kind = 1 ∧ own.pc = 9)) : OwnR most sz N s own s' o' := by
  refine ⟨?_, by rw [hc]; exact os, fun th h => ?_, ?_, by rw [hc, if_neg n9], by rw [hc]; exact .inl hb⟩ <;> rw [hc]
  · obtain ⟨g1, g2, g3, g4, g5, g6, g7, g8, g9, g10, g11, g12, g13⟩ := g
    exact ⟨g1, g2, ht, by omega, by omega, nn, g7, g8, g9, by rw [hn]; exact g10, g11, g12, g13⟩
  · exact h.own hv
  · exact .same p rfl hh rfl

theorem newer0 {most sz N : Int} {cs : List Int} {own : DOp} (g : DG most sz N cs own) (h : (0 : Int) ≤ newer own) {x : Int} (h0 : 0 ≤ x) (h1 : x ≤ cA cs + cC cs) : 0 ≤ x ∧ x < (cs.length : Int) := g.dep h h0 h1
/-- A step of a push that changes nothing but what lies behind the buffer in use. -/
theorem far_step {most sz N : Int} {s s' : AS} {own o' : DOp} (g : DG most sz N s.cs own) (nn : N + 1 ≤ 1000000000) (k : own.kind = 1) (k' : o'.kind = 1) (p : o'.pc ≠ 0) (ff : Far s.cs s'.cs) (hl : (s'.cs.length : Int) = (s.cs.length : Int) + (newer o' - newer own)) (hle : (s'.cs.length : Int) ≤ sz)
    (os : OwnS most s'.cs o') (n9 : own.pc ≠ 9) : OwnR most sz N s own s' o' := by
  obtain ⟨g1, g2, g3, g4, g5, g6, g7, g8, g9, g10, g11, g12, g13⟩ := g
  have hB : Bl s.cs own = gt s.cs 1 := Bl_up (low1 k)
  rw [hB] at g3 g4 g5
  have e0 : gt s'.cs 0 = gt s.cs 0 := ff 0 (by omega) (by omega)
  have e1 : gt s'.cs 1 = gt s.cs 1 := ff 1 (by omega) (by omega)
  have eA := ff.a g7 g8
  have eC := ff.c g7 g8
  have hB' : Bl s'.cs o' = gt s.cs 1 := by rw [Bl_up (low1 k')]; exact e1
  refine ⟨⟨g1, by rw [e0]; exact g2, by rw [hB', e0]; exact g3, by rw [hB', e0, eC]; exact g4, by rw [hB']; omega, nn, by rw [eA]; exact g7, by rw [eC]; exact g8, by rw [eC]; exact g9, by rw [eA, eC]; omega, g11, hle, by rw [eA, eC]; exact g13⟩, os, fun th h => h.far ff g7 g8 fun v => ?_,
    .same p (ctn_same e0 e1 fun i _ _ => ff.e g7 g8 i) (by rw [hand1 k, hand1 k']) e0, by rw [eC, if_neg (fun q => n9 q.2)], .inl (by rw [hB', hB]; exact Int.le_refl _)⟩
  rcases v with v | ⟨_, v, _⟩
  · exact .inl v
  · exact absurd v (low1 k)

theorem own_push {most sz N : Int} {s : AS} {own : DOp} (g : DG most sz N s.cs own) (nn : N + 1 ≤ 1000000000) (hs : s.sz = sz) (hm : Mach most own) (ho : OwnS most s.cs own) (k : own.kind = 1) (pp : own.pc ≠ 0) :
    ∃ v s', arenaI s own.req = (some v, s') ∧ OwnR most sz N s own s' (own.after v) := by
  obtain ⟨hb0, hmo⟩ := hm pp
  have g' := g
  obtain ⟨g1, g2, g3, g4, g5, g6, g7, g8, g9, g10, g11, g12, g13⟩ := g'
  have hB : Bl s.cs own = gt s.cs 1 := Bl_up (low1 k)
  rw [hB] at g3 g4 g5
  have rd : ∀ {s' : AS} {o' : DOp}, s'.cs = s.cs → o'.kind = 1 → newer o' = newer own → OwnS most s.cs o' → o'.pc ≠ 0 → own.pc ≠ 9 → OwnR most sz N s own s' o' := fun {s' o'} hc k' hn os p n9 =>
    own_read g nn hc (by rw [hB, Bl_up (low1 k')]; exact Int.le_refl _) (by rw [Bl_up (low1 k')]; exact g3) (fun v => v.elim .inl fun v => absurd v.2.1 (low1 k)) hn os p (by rw [hand1 k, hand1 k']) (fun q => n9 q.2)
  cases ho with
  | idle p => exact absurd p pp
  | po1 k' | po3 k' | po11 k' | po2 k' | po4 k' | po12 k' | po13 k' | pe k' | pf k' => omega
  | pu1 _ p =>
    have d := g.dep (x := 1) (by rw [new0 (by omega)]; decide) (by omega) (by omega)
    refine ⟨_, _, by rw [req1 hb0 p]; exact ld_ok d, ?_⟩
    rw [show own.after (gt s.cs 1) = { own with b := gt s.cs 1, pc := 2 } from by simp [DOp.after, DOp.pushed, k, p]]
    exact rd rfl k (by rw [new0 (.inr (by simp)), new0 (by omega)]) (.pu2 k rfl rfl) (by simp) (by omega)
  | pu2 _ p b =>
    have d := g.dep (x := 0) (by rw [new0 (by omega)]; decide) (by omega) (by omega)
    refine ⟨_, _, by rw [req2 hb0 p]; exact ld_ok d, ?_⟩
    rw [show own.after (gt s.cs 0) = { own with t := gt s.cs 0, pc := 3 } from by simp [DOp.after, DOp.pushed, k, p]]
    exact rd rfl k (by rw [new0 (.inr (by simp)), new0 (by omega)]) (.pu3 k rfl b g2 (Int.le_refl _) (by dsimp only; omega)) (by simp) (by omega)
  | pu3 _ p b t0 t f =>
    have d := g.dep (x := 2) (by rw [new0 (by omega)]; decide) (by omega) (by omega)
    refine ⟨_, _, by rw [req3 hb0 p]; exact ld_ok d, ?_⟩
    rw [show own.after (gt s.cs 2) = { own with a := gt s.cs 2, pc := 4 } from by simp [DOp.after, DOp.pushed, k, p]]
    exact rd rfl k (by rw [new0 (.inr (by simp)), new0 (by omega)]) (.pu4 k rfl b t0 t f rfl) (by simp) (by omega)
  | pu4 _ p b t0 t f a =>
    have d := g.dep (x := own.a) (by rw [new0 (by omega)]; decide) (by omega) (by omega)
    refine ⟨_, _, by rw [req4 hb0 p]; exact ld_ok d, ?_⟩
    have hc : gt s.cs own.a = cC s.cs := by rw [a]
    rw [hc]
    have wd : w64 (own.b - own.t) = own.b - own.t := by rw [w64_of] <;> omega
    by_cases q : own.b - own.t < cC s.cs
    · rw [show own.after (cC s.cs) = { own with c := cC s.cs, pc := 10 } from by simp only [DOp.after, DOp.pushed, k, p, if_true]; rw [if_neg (by decide), if_neg (by decide), if_neg (by decide), if_neg (by omega), wd, if_pos q]]
      exact rd rfl k (by rw [new0 (.inr (by simp)), new0 (by omega)]) (.pu10 k rfl b t0 t q a rfl) (by simp) (by omega)
    · by_cases r : own.most ≤ cC s.cs
      · rw [show own.after (cC s.cs) = DOp.over { own with c := cC s.cs, pc := 10 } 3 0 from by simp only [DOp.after, DOp.pushed, k, p, if_true]; rw [if_neg (by decide), if_neg (by decide), if_neg (by decide), if_neg (by omega), wd, if_neg q, if_pos r]]
        refine ⟨?_, .idle rfl, fun th h => h.own fun v => ?_, .full k rfl rfl rfl rfl (hand1 k) (handp (.inl rfl)) rfl (by omega) (by omega) b t0 p, (if_neg (by omega)).symm, .inl (by rw [hB]; exact Int.le_of_eq (Bl_up (lowp (.inl rfl))))⟩
        · have hn0 : newer own = 0 := new0 (by omega)
          exact g.own (by rw [hB]; exact Bl_up (lowp (.inl rfl))) (by rw [hn0]; exact new0 (.inr (.inl (show (0 : Int) < 6 by decide)))) nn
        · rcases v with v | ⟨_, v, _⟩
          · exact .inl v
          · exact absurd v (low1 k)
      · have w2 : w64 (2 * cC s.cs) = 2 * cC s.cs := by rw [w64_of] <;> omega
        rw [show own.after (cC s.cs) = { own with c := cC s.cs, c2 := if own.most < 2 * cC s.cs then own.most else 2 * cC s.cs, pc := 5 } from by
          simp only [DOp.after, DOp.pushed, k, p, if_true]; rw [if_neg (by decide), if_neg (by decide), if_neg (by decide), if_neg (by omega), wd, if_neg q, if_neg r, w2]]
        exact rd rfl k (by rw [new0 (.inr (by simp)), new0 (by omega)]) (.pu5 k rfl b t0 t (by dsimp only; omega) a rfl (by omega) (by rw [hmo])) (by simp) (by omega)
  | pu5 _ p b t0 t f a c lt c2 =>
    have hn0 : newer own = 0 := new0 (by omega)
    rw [hn0] at g10
    have hc2 : 1 ≤ own.c2 ∧ own.c2 ≤ most ∧ cC s.cs < own.c2 := by rw [c2]; split <;> omega
    have w1 : w64 (1 + own.c2) = 1 + own.c2 := by rw [w64_of] <;> omega
    obtain ⟨kk, k1, k2⟩ := g13
    have hroom : (s.cs.length : Int) + 1 + own.c2 ≤ sz ∧ ∃ k : Nat, most - own.c2 ≤ (k : Int) ∧ cellsGo most k ((s.cs.length : Int) + 1 + own.c2) own.c2 = sz := by
      obtain ⟨kk, rfl⟩ : ∃ j, kk = j + 1 := ⟨kk - 1, by omega⟩
      rw [cellsGo, if_pos lt] at k2
      have e1 : cA s.cs + cC s.cs + 1 + 1 + own.c2 = (s.cs.length : Int) + 1 + own.c2 := by omega
      rw [← c2, e1] at k2
      refine ⟨?_, kk, by omega, k2⟩
      have := cellsGo_ge most kk ((s.cs.length : Int) + 1 + own.c2) own.c2 (by omega)
      omega
    refine ⟨_, _, by rw [req5 hb0 p, w1]; exact rs_ok (by omega) (by omega), ?_⟩
    rw [show own.after (s.cs.length : Int) = { own with a2 := (s.cs.length : Int), pc := 6 } from by simp [DOp.after, DOp.pushed, k, p]]
    have far : ∀ x, gt (s.cs ++ List.replicate (1 + own.c2).toNat 0) x = gt s.cs x := fun x => gt_app _ _ _
    have ff : Far s.cs (s.cs ++ List.replicate (1 + own.c2).toNat 0) := fun x _ _ => far x
    have hlen : ((s.cs ++ List.replicate (1 + own.c2).toNat (0 : Int)).length : Int) = (s.cs.length : Int) + 1 + own.c2 := by rw [List.length_append, List.length_replicate]; omega
    have eA := ff.a g7 g8
    have eC := ff.c g7 g8
    refine far_step g nn k k (by simp) ff ?_ (by show ((s.cs ++ _).length : Int) ≤ sz; rw [hlen]; omega) (.pu6 k rfl ?_ t0 ?_ ?_ ?_ ?_ ?_ ?_ ?_) (by omega)
    · show ((s.cs ++ _).length : Int) = _
      rw [hlen, hn0]
      unfold newer
      rw [if_pos ⟨k, by simp⟩]
      dsimp only; omega
    · show own.b = gt (s.cs ++ _) 1; rw [far]; exact b
    · show own.t ≤ gt (s.cs ++ _) 0; rw [far]; exact t
    · show _ = cC (s.cs ++ _); rw [eC]; exact f
    · show _ = cA (s.cs ++ _); rw [eA]; exact a
    · show _ = cC (s.cs ++ _); rw [eC]; exact c
    · show cC (s.cs ++ _) < most; rw [eC]; exact lt
    · show own.c2 = if most < 2 * cC (s.cs ++ _) then most else 2 * cC (s.cs ++ _); rw [eC]; exact c2
    · show (s.cs.length : Int) = cA (s.cs ++ _) + cC (s.cs ++ _) + 1; rw [eA, eC]; omega
  | pu6 _ p b t0 t f a c lt c2 a2 =>
    have hn0 : newer own = 1 + own.c2 := by unfold newer; rw [if_pos ⟨k, by omega, by omega⟩]
    rw [hn0] at g10
    have hc2 : 1 ≤ own.c2 ∧ own.c2 ≤ most ∧ cC s.cs < own.c2 := by rw [c2]; split <;> omega
    refine ⟨_, _, by rw [req6 hb0 p]; exact st_ok ⟨by omega, by omega⟩, ?_⟩
    rw [show own.after 0 = { own with i := own.t, pc := 7 } from by simp [DOp.after, DOp.pushed, k, p]]
    have far : ∀ x, 0 ≤ x → x ≠ own.a2 → gt (s.cs.set own.a2.toNat own.c2) x = gt s.cs x := fun x h0 hx => gt_set_ne (by omega) h0 hx
    have ff : Far s.cs (s.cs.set own.a2.toNat own.c2) := fun x h0 hx => far x h0 (by omega)
    have eA := ff.a g7 g8
    have eC := ff.c g7 g8
    refine far_step g nn k k (by simp) ff ?_ (by show ((s.cs.set _ _).length : Int) ≤ sz; rw [List.length_set]; exact g12) (.pu7 k rfl ?_ t0 ?_ ?_ ?_ ?_ ?_ ?_ ?_ ?_ (Int.le_refl _) (by dsimp only; omega) (fun j h1 h2 => by dsimp only at h1 h2; omega)) (by omega)
    · show ((s.cs.set _ _).length : Int) = _
      rw [hn0, List.length_set]
      unfold newer
      rw [if_pos ⟨k, by simp⟩]
      dsimp only; omega
    · show own.b = gt (s.cs.set _ _) 1; rw [far 1 (by omega) (by omega)]; exact b
    · show own.t ≤ gt (s.cs.set _ _) 0; rw [far 0 (by omega) (by omega)]; exact t
    · show _ = cC (s.cs.set _ _); rw [eC]; exact f
    · show _ = cA (s.cs.set _ _); rw [eA]; exact a
    · show _ = cC (s.cs.set _ _); rw [eC]; exact c
    · show cC (s.cs.set _ _) < most; rw [eC]; exact lt
    · show own.c2 = if most < 2 * cC (s.cs.set _ _) then most else 2 * cC (s.cs.set _ _); rw [eC]; exact c2
    · show own.a2 = cA (s.cs.set _ _) + cC (s.cs.set _ _) + 1; rw [eA, eC]; exact a2
    · show gt (s.cs.set _ _) own.a2 = own.c2; rw [gt_set (by omega) (by omega) (by omega), if_pos rfl]
  | pu7 _ p b t0 t f a c lt c2 a2 hd i1 i2 cp =>
    have hn0 : newer own = 1 + own.c2 := by unfold newer; rw [if_pos ⟨k, by omega, by omega⟩]
    have hc2 : 1 ≤ own.c2 ∧ own.c2 ≤ most ∧ cC s.cs < own.c2 := by rw [c2]; split <;> omega
    have hpl : placeD own.a own.c own.i = pl (cA s.cs) (cC s.cs) own.i := by rw [a, c]; exact placeD_pl (by omega) (by omega) (by omega) (by omega) (by omega)
    have hr := pl_range (a := cA s.cs) (i := own.i) g8
    refine ⟨_, _, by rw [req7 hb0 p, hpl]; exact ld_ok (g.dep (by omega) (by omega) (by omega)), ?_⟩
    rw [show own.after (gt s.cs (pl (cA s.cs) (cC s.cs) own.i)) = { own with x := cE s.cs own.i, pc := 8 } from by simp [DOp.after, DOp.pushed, k, p]]
    exact rd rfl k (by rw [hn0]; unfold newer; rw [if_pos ⟨k, by simp⟩]) (.pu8 k rfl b t0 t f a c lt c2 a2 hd i1 i2 cp rfl) (by simp) (by omega)
  | pu8 _ p b t0 t f a c lt c2 a2 hd i1 i2 cp x =>
    have hn0 : newer own = 1 + own.c2 := by unfold newer; rw [if_pos ⟨k, by omega, by omega⟩]
    have hc2 : 1 ≤ own.c2 ∧ own.c2 ≤ most ∧ cC s.cs < own.c2 := by rw [c2]; split <;> omega
    rw [hn0] at g10
    have hpl : placeD own.a2 own.c2 own.i = pl own.a2 own.c2 own.i := placeD_pl (by omega) (by omega) (by omega) (by omega) (by omega)
    have hr := pl_range (a := own.a2) (i := own.i) hc2.1
    refine ⟨_, _, by rw [req8 hb0 p, hpl]; exact st_ok ⟨by omega, by omega⟩, ?_⟩
    have far : ∀ y, 0 ≤ y → y ≠ pl own.a2 own.c2 own.i → gt (s.cs.set (pl own.a2 own.c2 own.i).toNat own.x) y = gt s.cs y := fun y h0 hx => gt_set_ne (by omega) h0 hx
    have ff : Far s.cs (s.cs.set (pl own.a2 own.c2 own.i).toNat own.x) := fun y h0 hx => far y h0 (by omega)
    have eA := ff.a g7 g8
    have eC := ff.c g7 g8
    have wi : w64 (own.i + 1) = own.i + 1 := by rw [w64_of] <;> omega
    have cp' : ∀ j, own.t ≤ j → j < own.i + 1 → gt (s.cs.set (pl own.a2 own.c2 own.i).toNat own.x) (pl own.a2 own.c2 j) = cE (s.cs.set (pl own.a2 own.c2 own.i).toNat own.x) j := fun j h1 h2 => by
      rw [ff.e g7 g8]
      have hrj := pl_range (a := own.a2) (i := j) hc2.1
      by_cases e : j = own.i
      · rw [e, gt_set (by omega) (by omega) (by omega), if_pos rfl]; exact x
      · rw [far _ (by omega) (pl_ne (by omega) (by omega))]
        exact cp j h1 (by omega)
    have b' : own.b = gt (s.cs.set (pl own.a2 own.c2 own.i).toNat own.x) 1 := by rw [far 1 (by omega) (by omega)]; exact b
    have t' : own.t ≤ gt (s.cs.set (pl own.a2 own.c2 own.i).toNat own.x) 0 := by rw [far 0 (by omega) (by omega)]; exact t
    have f' : own.b - own.t = cC (s.cs.set (pl own.a2 own.c2 own.i).toNat own.x) := by rw [eC]; exact f
    have a' : own.a = cA (s.cs.set (pl own.a2 own.c2 own.i).toNat own.x) := by rw [eA]; exact a
    have c' : own.c = cC (s.cs.set (pl own.a2 own.c2 own.i).toNat own.x) := by rw [eC]; exact c
    have lt' : cC (s.cs.set (pl own.a2 own.c2 own.i).toNat own.x) < most := by rw [eC]; exact lt
    have c2' : own.c2 = if most < 2 * cC (s.cs.set (pl own.a2 own.c2 own.i).toNat own.x) then most else 2 * cC (s.cs.set (pl own.a2 own.c2 own.i).toNat own.x) := by rw [eC]; exact c2
    have a2' : own.a2 = cA (s.cs.set (pl own.a2 own.c2 own.i).toNat own.x) + cC (s.cs.set (pl own.a2 own.c2 own.i).toNat own.x) + 1 := by rw [eA, eC]; exact a2
    have hd' : gt (s.cs.set (pl own.a2 own.c2 own.i).toNat own.x) own.a2 = own.c2 := by rw [far _ (by omega) (by omega)]; exact hd
    have hln : (((s.cs.set (pl own.a2 own.c2 own.i).toNat own.x).length : Nat) : Int) = (s.cs.length : Int) := by rw [List.length_set]
    by_cases q : own.i + 1 = own.b
    · rw [show own.after 0 = { own with i := own.i + 1, pc := 9 } from by simp only [DOp.after, DOp.pushed, k, p, wi, if_true]; rw [if_neg (by decide), if_neg (by decide), if_neg (by decide), if_neg (by decide), if_neg (by decide), if_neg (by decide), if_neg (by decide), if_pos q]]
      refine far_step g nn k k (by simp) ff ?_ (by show ((s.cs.set _ _).length : Int) ≤ sz; rw [hln]; exact g12) (.pu9 k rfl b' t0 t' f' a' c' lt' c2' a2' hd' fun j h1 h2 => cp' j h1 (by have h2 : j < own.b := h2; omega)) (by omega)
      show ((s.cs.set _ _).length : Int) = _
      rw [hn0, hln]
      unfold newer
      rw [if_pos ⟨k, by simp⟩]
      dsimp only; omega
    · rw [show own.after 0 = { own with i := own.i + 1, pc := 7 } from by simp only [DOp.after, DOp.pushed, k, p, wi, if_true]; rw [if_neg (by decide), if_neg (by decide), if_neg (by decide), if_neg (by decide), if_neg (by decide), if_neg (by decide), if_neg (by decide), if_neg q]]
      refine far_step g nn k k (by simp) ff ?_ (by show ((s.cs.set _ _).length : Int) ≤ sz; rw [hln]; exact g12) (.pu7 k rfl b' t0 t' f' a' c' lt' c2' a2' hd' (by dsimp only; omega) (by dsimp only; omega) cp') (by omega)
      show ((s.cs.set _ _).length : Int) = _
      rw [hn0, hln]
      unfold newer
      rw [if_pos ⟨k, by simp⟩]
      dsimp only; omega
  | pu9 _ p b t0 t f a c lt c2 a2 hd cp =>
    have hn0 : newer own = 1 + own.c2 := by unfold newer; rw [if_pos ⟨k, by omega, by omega⟩]
    have hc2 : 1 ≤ own.c2 ∧ own.c2 ≤ most ∧ cC s.cs < own.c2 := by rw [c2]; split <;> omega
    rw [hn0] at g10
    refine ⟨_, _, by rw [req9 hb0 p]; exact st_ok (s := s) (a := 2) (v := own.a2) ⟨by omega, by omega⟩, ?_⟩
    rw [show own.after 0 = { own with a := own.a2, c := own.c2, pc := 10 } from by simp [DOp.after, DOp.pushed, k, p]]
    have far : ∀ y, 0 ≤ y → y ≠ 2 → gt (s.cs.set (2 : Int).toNat own.a2) y = gt s.cs y := fun y h0 hx => gt_set_ne (by omega) h0 hx
    have eA : cA (s.cs.set (2 : Int).toNat own.a2) = own.a2 := by show gt (s.cs.set (2 : Int).toNat own.a2) 2 = _; rw [gt_set (by omega) (by omega) (by omega), if_pos rfl]
    have eC : cC (s.cs.set (2 : Int).toNat own.a2) = own.c2 := by show gt _ (cA _) = _; rw [eA, far _ (by omega) (by omega)]; exact hd
    have e0 := far 0 (by omega) (by omega)
    have e1 := far 1 (by omega) (by omega)
    have eE : ∀ j, own.t ≤ j → j < own.b → cE (s.cs.set (2 : Int).toNat own.a2) j = cE s.cs j := fun j h1 h2 => by
      show gt _ (pl (cA _) (cC _) j) = _
      have := pl_range (a := own.a2) (i := j) hc2.1
      rw [eA, eC, far _ (by omega) (by omega)]
      exact cp j h1 h2
    have hbl : Bl (s.cs.set (2 : Int).toNat own.a2) { own with a := own.a2, c := own.c2, pc := 10 } = gt s.cs 1 := (Bl_up (low1 (o := { own with a := own.a2, c := own.c2, pc := 10 }) k)).trans e1
    have hnw : newer { own with a := own.a2, c := own.c2, pc := 10 } = 0 := new0 (.inr (.inr (by simp)))
    obtain ⟨kk, k1, k2⟩ := g13
    refine ⟨⟨g1, by show 0 ≤ gt (s.cs.set _ _) 0; rw [e0]; exact g2, by show gt (s.cs.set _ _) 0 ≤ Bl (s.cs.set _ _) _; rw [hbl, e0]; exact g3, by show Bl (s.cs.set _ _) _ - gt (s.cs.set _ _) 0 ≤ cC (s.cs.set _ _); rw [hbl, e0, eC]; omega, by show Bl (s.cs.set _ _) _ ≤ _; rw [hbl]; omega, nn,
      by show 3 ≤ cA (s.cs.set _ _); rw [eA]; omega, by show 1 ≤ cC (s.cs.set _ _); rw [eC]; omega, by show cC (s.cs.set _ _) ≤ most; rw [eC]; omega, ?_, g11, by show ((s.cs.set _ _).length : Int) ≤ sz; rw [List.length_set]; exact g12, ?_⟩, .pu10 k rfl (by show own.b = gt (s.cs.set _ _) 1; rw [e1]; exact b) t0 (by show own.t ≤ gt (s.cs.set _ _) 0; rw [e0]; exact t) (by show own.b - own.t < cC (s.cs.set _ _); rw [eC]; omega) (by show own.a2 = cA (s.cs.set _ _); rw [eA]) (by show own.c2 = cC (s.cs.set _ _); rw [eC]), fun th h => ?_, .same (by simp) (ctn_same e0 e1 fun i h1 h2 => eE i (by omega) (by omega)) (by rw [hand1 k]; exact hand1 k) e0, by show cC (s.cs.set _ _) = _; rw [eC, if_pos ⟨k, p⟩], .inl (by rw [hB]; exact Int.le_of_eq hbl)⟩
    · show ((s.cs.set _ _).length : Int) = cA (s.cs.set _ _) + cC (s.cs.set _ _) + 1 + newer _
      rw [hnw, eA, eC, List.length_set]; omega
    · show ∃ k : Nat, most - cC (s.cs.set _ _) ≤ (k : Int) ∧ cellsGo most k (cA (s.cs.set _ _) + cC (s.cs.set _ _) + 1) (cC (s.cs.set _ _)) = sz
      rw [eA, eC]
      obtain ⟨kk, rfl⟩ : ∃ j, kk = j + 1 := ⟨kk - 1, by omega⟩
      rw [cellsGo, if_pos lt, ← c2] at k2
      exact ⟨kk, by omega, by rw [← k2]; congr 1; omega⟩
    · refine h.keep e0 (fun v => ?_) (fun y hb => ?_) (fun v => ?_)
      · rcases v with v | ⟨_, v, _⟩
        · exact .inl (by show _ < gt (s.cs.set _ _) 1; rw [e1]; exact v)
        · exact absurd v (low1 k)
      · have hr := hb.room g7 g8
        obtain ⟨b1, b2, b3, b4⟩ := hb
        have ey : gt (s.cs.set (2 : Int).toNat own.a2) y = gt s.cs y := far y (by omega) (by omega)
        refine ⟨⟨b1, by show 1 ≤ gt (s.cs.set _ _) y; rw [ey]; exact b2, by show gt (s.cs.set _ _) y ≤ 4096; rw [ey]; exact b3, .inr ?_⟩, ey, fun v q => ?_⟩
        · show y + gt (s.cs.set _ _) y + 1 ≤ cA (s.cs.set _ _); rw [ey, eA]; omega
        · have := pl_range (a := y) (i := gt s.cs 0) b2
          rcases v with v | ⟨_, v, _⟩
          · show gt (s.cs.set _ _) _ = cE (s.cs.set _ _) _
            rw [far _ (by omega) (by omega), eE _ t (by omega), q]
          · exact absurd v (low1 k)
      · rcases v with v | ⟨_, v, _⟩
        · exact eE _ t (by omega)
        · exact absurd v (low1 k)
  | pu10 _ p b t0 t f a c =>
    have hn0 : newer own = 0 := new0 (by omega)
    rw [hn0] at g10
    have hpl : placeD own.a own.c own.b = pl (cA s.cs) (cC s.cs) own.b := by rw [a, c]; exact placeD_pl (by omega) (by omega) (by omega) (by omega) (by omega)
    have hr := pl_range (a := cA s.cs) (i := own.b) g8
    refine ⟨_, _, by rw [req10 hb0 p, hpl]; exact st_ok ⟨by omega, by omega⟩, ?_⟩
    rw [show own.after 0 = { own with pc := 11 } from by simp [DOp.after, DOp.pushed, k, p]]
    have far : ∀ y, 0 ≤ y → y ≠ pl (cA s.cs) (cC s.cs) own.b → gt (s.cs.set (pl (cA s.cs) (cC s.cs) own.b).toNat own.v) y = gt s.cs y := fun y h0 hx => gt_set_ne (by omega) h0 hx
    have e0 := far 0 (by omega) (by omega)
    have e1 := far 1 (by omega) (by omega)
    have eA : cA (s.cs.set (pl (cA s.cs) (cC s.cs) own.b).toNat own.v) = cA s.cs := far 2 (by omega) (by omega)
    have eC : cC (s.cs.set (pl (cA s.cs) (cC s.cs) own.b).toNat own.v) = cC s.cs := by show gt _ (cA _) = _; rw [eA]; exact far _ (by omega) (by omega)
    have eE : ∀ j, gt s.cs 0 ≤ j → j < gt s.cs 1 → cE (s.cs.set (pl (cA s.cs) (cC s.cs) own.b).toNat own.v) j = cE s.cs j := fun j h1 h2 => by
      show gt _ (pl (cA _) (cC _) j) = _
      have := pl_range (a := cA s.cs) (i := j) g8
      rw [eA, eC]
      exact far _ (by omega) (pl_ne (by omega) (by omega))
    have hbl : Bl (s.cs.set (pl (cA s.cs) (cC s.cs) own.b).toNat own.v) { own with pc := 11 } = gt s.cs 1 := (Bl_up (low1 (o := { own with pc := 11 }) k)).trans e1
    have hnw : newer { own with pc := 11 } = 0 := new0 (.inr (.inr (by simp)))
    refine ⟨⟨g1, by show 0 ≤ gt (s.cs.set _ _) 0; rw [e0]; exact g2, by show gt (s.cs.set _ _) 0 ≤ Bl (s.cs.set _ _) _; rw [hbl, e0]; exact g3, by show Bl (s.cs.set _ _) _ - gt (s.cs.set _ _) 0 ≤ cC (s.cs.set _ _); rw [hbl, e0, eC]; omega, by show Bl (s.cs.set _ _) _ ≤ _; rw [hbl]; omega, nn,
      by show 3 ≤ cA (s.cs.set _ _); rw [eA]; omega, by show 1 ≤ cC (s.cs.set _ _); rw [eC]; omega, by show cC (s.cs.set _ _) ≤ most; rw [eC]; omega, ?_, g11, by show ((s.cs.set _ _).length : Int) ≤ sz; rw [List.length_set]; exact g12, by show ∃ k : Nat, most - cC (s.cs.set _ _) ≤ (k : Int) ∧ cellsGo most k (cA (s.cs.set _ _) + cC (s.cs.set _ _) + 1) (cC (s.cs.set _ _)) = sz; rw [eA, eC]; exact g13⟩,
      .pu11 k rfl (by show own.b = gt (s.cs.set _ _) 1; rw [e1]; exact b) t0 (by show own.t ≤ gt (s.cs.set _ _) 0; rw [e0]; exact t) (by show own.b - own.t < cC (s.cs.set _ _); rw [eC]; exact f) (by show own.a = cA (s.cs.set _ _); rw [eA]; exact a) (by show own.c = cC (s.cs.set _ _); rw [eC]; exact c) ?_, fun th h => ?_, .same (by simp) (ctn_same e0 e1 eE) (by rw [hand1 k]; exact hand1 k) e0, by show cC (s.cs.set _ _) = _; rw [eC, if_neg (by omega)], .inl (by rw [hB]; exact Int.le_of_eq hbl)⟩
    · show ((s.cs.set _ _).length : Int) = cA (s.cs.set _ _) + cC (s.cs.set _ _) + 1 + newer _
      rw [hnw, eA, eC, List.length_set]; omega
    · show gt (s.cs.set _ _) (pl (cA (s.cs.set _ _)) (cC (s.cs.set _ _)) own.b) = own.v
      rw [eA, eC, gt_set (by omega) (by omega) (by omega), if_pos rfl]
    · refine h.keep e0 (fun v => ?_) (fun y hb => ?_) (fun v => ?_)
      · rcases v with v | ⟨_, v, _⟩
        · exact .inl (by show _ < gt (s.cs.set _ _) 1; rw [e1]; exact v)
        · exact absurd v (low1 k)
      · have hrm := hb.room g7 g8
        have hb' := hb
        obtain ⟨b1, b2, b3, b4⟩ := hb
        have ey : gt (s.cs.set (pl (cA s.cs) (cC s.cs) own.b).toNat own.v) y = gt s.cs y := far y (by omega) (by rcases b4 with e | e <;> omega)
        refine ⟨⟨b1, by show 1 ≤ gt (s.cs.set _ _) y; rw [ey]; exact b2, by show gt (s.cs.set _ _) y ≤ 4096; rw [ey]; exact b3, ?_⟩, ey, fun v q => ?_⟩
        · show y = cA (s.cs.set _ _) ∨ y + gt (s.cs.set _ _) y + 1 ≤ cA (s.cs.set _ _); rw [ey, eA]; exact b4
        · have := pl_range (a := y) (i := gt s.cs 0) b2
          rcases v with v | ⟨_, v, _⟩
          · show gt (s.cs.set _ _) _ = cE (s.cs.set _ _) _
            rw [eE _ (Int.le_refl _) v, ← q]
            refine far _ (by omega) ?_
            rcases b4 with e | e
            · subst e; exact pl_ne (by omega) (show own.b - gt s.cs 0 < cC s.cs by omega)
            · omega
          · exact absurd v (low1 k)
      · rcases v with v | ⟨_, v, _⟩
        · exact eE _ (Int.le_refl _) v
        · exact absurd v (low1 k)
  | pu11 _ p b t0 t f a c e =>
    have hn0 : newer own = 0 := new0 (by omega)
    rw [hn0] at g10
    have wb : w64 (own.b + 1) = own.b + 1 := by rw [w64_of] <;> omega
    have hnx : own.next = own.b + 1 := by unfold DOp.next; rw [if_pos k, wb]
    refine ⟨_, _, by rw [req11 hb0 p, hnx]; exact st_ok (s := s) (a := 1) ⟨by omega, by omega⟩, ?_⟩
    rw [show own.after 0 = own.over 2 0 from by simp [DOp.after, DOp.pushed, k, p]]
    have far : ∀ y, 0 ≤ y → y ≠ 1 → gt (s.cs.set (1 : Int).toNat (own.b + 1)) y = gt s.cs y := fun y h0 hx => gt_set_ne (by omega) h0 hx
    have e0 := far 0 (by omega) (by omega)
    have e1 : gt (s.cs.set (1 : Int).toNat (own.b + 1)) 1 = gt s.cs 1 + 1 := by rw [gt_set (by omega) (by omega) (by omega), if_pos rfl]; omega
    have eA : cA (s.cs.set (1 : Int).toNat (own.b + 1)) = cA s.cs := far 2 (by omega) (by omega)
    have eC : cC (s.cs.set (1 : Int).toNat (own.b + 1)) = cC s.cs := by show gt _ (cA _) = _; rw [eA]; exact far _ (by omega) (by omega)
    have eE : ∀ j, cE (s.cs.set (1 : Int).toNat (own.b + 1)) j = cE s.cs j := fun j => by
      show gt _ (pl (cA _) (cC _) j) = _
      have := pl_range (a := cA s.cs) (i := j) g8
      rw [eA, eC]
      exact far _ (by omega) (by omega)
    have hbl : Bl (s.cs.set (1 : Int).toNat (own.b + 1)) (own.over 2 0) = gt s.cs 1 + 1 := (Bl_up (lowp (.inl rfl))).trans e1
    have hnw : newer (own.over 2 0) = 0 := new0 (.inr (.inl (show (0 : Int) < 6 by decide)))
    refine ⟨⟨g1, by show 0 ≤ gt (s.cs.set _ _) 0; rw [e0]; exact g2, by show gt (s.cs.set _ _) 0 ≤ Bl (s.cs.set _ _) _; rw [hbl, e0]; omega, by show Bl (s.cs.set _ _) _ - gt (s.cs.set _ _) 0 ≤ cC (s.cs.set _ _); rw [hbl, e0, eC]; omega, by show Bl (s.cs.set _ _) _ ≤ _; rw [hbl]; omega, nn,
      by show 3 ≤ cA (s.cs.set _ _); rw [eA]; omega, by show 1 ≤ cC (s.cs.set _ _); rw [eC]; omega, by show cC (s.cs.set _ _) ≤ most; rw [eC]; omega, ?_, g11, by show ((s.cs.set _ _).length : Int) ≤ sz; rw [List.length_set]; exact g12, by show ∃ k : Nat, most - cC (s.cs.set _ _) ≤ (k : Int) ∧ cellsGo most k (cA (s.cs.set _ _) + cC (s.cs.set _ _) + 1) (cC (s.cs.set _ _)) = sz; rw [eA, eC]; exact g13⟩,
      .idle rfl, fun th h => ?_, .push k rfl rfl rfl ?_ (hand1 k) (handp (.inl rfl)) e0 (by omega) p, by show cC (s.cs.set _ _) = _; rw [eC, if_neg (by omega)], .inr ⟨k, p, by rw [hB]; exact Int.le_of_eq hbl⟩⟩
    · show ((s.cs.set _ _).length : Int) = cA (s.cs.set _ _) + cC (s.cs.set _ _) + 1 + newer _
      rw [hnw, eA, eC, List.length_set]; omega
    · refine h.keep e0 (fun v => ?_) (fun y hb => ?_) (fun v => eE _)
      · rcases v with v | ⟨_, v, _⟩
        · exact .inl (by show _ < gt (s.cs.set _ _) 1; rw [e1]; omega)
        · exact absurd v (low1 k)
      · obtain ⟨b1, b2, b3, b4⟩ := hb
        have ey : gt (s.cs.set (1 : Int).toNat (own.b + 1)) y = gt s.cs y := far y (by omega) (by omega)
        refine ⟨⟨b1, by show 1 ≤ gt (s.cs.set _ _) y; rw [ey]; exact b2, by show gt (s.cs.set _ _) y ≤ 4096; rw [ey]; exact b3, ?_⟩, ey, fun v q => ?_⟩
        · show y = cA (s.cs.set _ _) ∨ y + gt (s.cs.set _ _) y + 1 ≤ cA (s.cs.set _ _); rw [ey, eA]; exact b4
        · have := pl_range (a := y) (i := gt s.cs 0) b2
          show gt (s.cs.set _ _) _ = cE (s.cs.set _ _) _
          rw [eE, ← q]
          exact far _ (by omega) (by omega)
    · have := ctn_push (cs := s.cs) (cs' := s.cs.set (1 : Int).toNat (own.b + 1)) e0 e1 g3 fun i _ _ => eE i
      rw [eE, ← b, e] at this
      exact this

end Go.Mx
