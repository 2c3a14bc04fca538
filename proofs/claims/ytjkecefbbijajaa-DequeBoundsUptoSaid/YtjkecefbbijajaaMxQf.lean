/-
  The deque alone: a step of a pop.
-/
import Derived.Test.YtjkecefbbijajaaMxQe
set_option linter.unusedVariables false
set_option linter.unusedSimpArgs false
namespace Go.Mx

/-- BOTTOM is written. -/
structure Set1 (cs cs' : List Int) (x : Int) : Prop where
  e0 : gt cs' 0 = gt cs 0
  e1 : gt cs' 1 = x
  eA : cA cs' = cA cs
  eC : cC cs' = cC cs
  eE : ∀ j, cE cs' j = cE cs j
  bf : ∀ a, Buf cs a → Buf cs' a ∧ gt cs' a = gt cs a ∧ ∀ i, gt cs' (pl a (gt cs a) i) = gt cs (pl a (gt cs a) i)
  len : cs'.length = cs.length
theorem set1 {most sz N : Int} {cs : List Int} {own : DOp} (g : DG most sz N cs own) (hl : (1 : Int) < (cs.length : Int)) (x : Int) : Set1 cs (cs.set (1 : Int).toNat x) x := by
  have far : ∀ y, 0 ≤ y → y ≠ 1 → gt (cs.set (1 : Int).toNat x) y = gt cs y := fun y h0 hx => gt_set_ne (by omega) h0 hx
  have a3 := g.a3
  have c1 := g.c1
  have eA : cA (cs.set (1 : Int).toNat x) = cA cs := far 2 (by omega) (by omega)
  have eC : cC (cs.set (1 : Int).toNat x) = cC cs := by show gt _ (cA _) = _; rw [eA]; exact far _ (by omega) (by omega)
  refine ⟨far 0 (by omega) (by omega), by rw [gt_set (by omega) hl (by omega), if_pos rfl], eA, eC, fun j => ?_, fun a hb => ?_, List.length_set⟩
  · show gt _ (pl (cA _) (cC _) j) = _
    have := pl_range (a := cA cs) (i := j) c1
    rw [eA, eC]
    exact far _ (by omega) (by omega)
  · obtain ⟨b1, b2, b3, b4⟩ := hb
    have ey : gt (cs.set (1 : Int).toNat x) a = gt cs a := far a (by omega) (by omega)
    refine ⟨⟨b1, by rw [ey]; exact b2, by rw [ey]; exact b3, by rw [ey, eA]; exact b4⟩, ey, fun i => ?_⟩
    have := pl_range (a := a) (i := i) b2
    exact far _ (by omega) (by omega)
theorem Set1.dg {most sz N : Int} {cs cs' : List Int} {own own' : DOp} {x : Int} (s : Set1 cs cs' x) (g : DG most sz N cs own) (hn : newer own = 0) (hn' : newer own' = 0) (nn : N + 1 ≤ 1000000000) (h1 : gt cs 0 ≤ Bl cs' own') (h2 : Bl cs' own' ≤ Bl cs own) : DG most sz (N + 1) cs' own' := by
  obtain ⟨g1, g2, g3, g4, g5, g6, g7, g8, g9, g10, g11, g12, g13⟩ := g
  obtain ⟨e0, e1, eA, eC, eE, bf, len⟩ := s
  exact ⟨g1, by rw [e0]; exact g2, by rw [e0]; exact h1, by rw [e0, eC]; omega, by omega, nn, by rw [eA]; exact g7, by rw [eC]; exact g8, by rw [eC]; exact g9, by rw [len, eA, eC, hn']; omega, g11, by rw [len]; exact g12, by rw [eA, eC]; exact g13⟩
theorem Set1.th {cs cs' : List Int} {own own' th : DOp} {x : Int} (s : Set1 cs cs' x) (h : ThS cs own th) (hv : Av cs own (gt cs 0) → Av cs' own' (gt cs 0)) : ThS cs' own' th :=
  h.keep s.e0 hv (fun a hb => ⟨(s.bf a hb).1, (s.bf a hb).2.1, fun _ e => by rw [(s.bf a hb).2.2, s.eE]; exact e⟩) (fun _ => s.eE _)

theorem lo2 {o : DOp} (k : o.kind = 2) (p : o.pc = 2) : lowered o := ⟨k, .inl p⟩
theorem lo4 {o : DOp} (k : o.kind = 2) (p : o.pc = 4 ∨ o.pc = 12 ∨ o.pc = 13) (e : o.t = o.b) : lowered o := ⟨k, .inr (.inl ⟨p, e⟩)⟩
theorem lo4n {o : DOp} (p : o.pc = 4 ∨ o.pc = 12 ∨ o.pc = 13) (e : ¬ o.t = o.b) : ¬ lowered o := fun q => by
  obtain ⟨_, q | ⟨_, q⟩ | q⟩ := q
  · omega
  · exact e q
  · omega
theorem lo11 {o : DOp} (k : o.kind = 2) (p : o.pc = 11) (i : o.i = 1) : lowered o := ⟨k, .inr (.inr ⟨p, by omega⟩)⟩

theorem own_pop {most sz N : Int} {s : AS} {own : DOp} (g : DG most sz N s.cs own) (nn : N + 1 ≤ 1000000000) (hs : s.sz = sz) (hm : Mach most own) (ho : OwnS most s.cs own) (k : own.kind = 2) (pp : own.pc ≠ 0) :
    ∃ v s', arenaI s own.req = (some v, s') ∧ OwnR most sz N s own s' (own.after v) := by
  obtain ⟨hb0, hmo⟩ := hm pp
  have g' := g
  obtain ⟨g1, g2, g3, g4, g5, g6, g7, g8, g9, g10, g11, g12, g13⟩ := g'
  have hn : newer own = 0 := new0 (by omega)
  have hn' : ∀ {o : DOp}, o.kind = 2 → newer o = 0 := fun {o} h => new0 (by omega)
  rw [hn] at g10
  have d := fun {x : Int} => g.dep (x := x) (by rw [hn]; exact Int.le_refl _)
  cases ho with
  | idle p => exact absurd p pp
  | pu1 k' | pu2 k' | pu3 k' | pu4 k' | pu5 k' | pu6 k' | pu7 k' | pu8 k' | pu9 k' | pu10 k' | pu11 k' => omega
  | po1 _ p i w =>
    have hB : Bl s.cs own = gt s.cs 1 := Bl_up (lowp (.inr (.inl p)))
    have wb : w64 (gt s.cs 1 - 1) = gt s.cs 1 - 1 := by rw [w64_of] <;> omega
    refine ⟨_, _, by rw [req1 hb0 p]; exact ld_ok (d (by omega) (by omega)), ?_⟩
    rw [show own.after (gt s.cs 1) = { own with b := gt s.cs 1 - 1, pc := 3 } from by simp [DOp.after, DOp.popped, k, p, wb]]
    have hB' : Bl s.cs { own with b := gt s.cs 1 - 1, pc := 3 } = gt s.cs 1 := Bl_up (lowp (.inr (.inr (.inl rfl))))
    exact own_read g nn rfl (by rw [hB, hB']; exact Int.le_refl _) (by rw [hB', ← hB]; exact g3) (fun v => v.elim .inl fun v => absurd v.2.1 (lowp (.inr (.inl p)))) (by rw [hn]; exact hn' k) (.po3 k rfl i w rfl) (by simp) ((handp (.inr (.inr (.inl rfl)))).trans (handp (.inr (.inl p))).symm) (by omega)
  | po3 _ p i w b =>
    have hB : Bl s.cs own = gt s.cs 1 := Bl_up (lowp (.inr (.inr (.inl p))))
    refine ⟨_, _, by rw [req3 hb0 p]; exact ld_ok (d (by omega) (by omega)), ?_⟩
    rw [show own.after (gt s.cs 2) = { own with a := gt s.cs 2, pc := 11 } from by simp [DOp.after, DOp.popped, k, p]]
    have hB' : Bl s.cs { own with a := gt s.cs 2, pc := 11 } = gt s.cs 1 := Bl_up (lowp (.inr (.inr (.inr ⟨rfl, i⟩))))
    exact own_read g nn rfl (by rw [hB, hB']; exact Int.le_refl _) (by rw [hB', ← hB]; exact g3) (fun v => v.elim .inl fun v => absurd v.2.1 (lowp (.inr (.inr (.inl p))))) (by rw [hn]; exact hn' k) (.po11 k rfl i w b rfl) (by simp) ((handp (o := { own with a := gt s.cs 2, pc := 11 }) (.inr (.inr (.inr ⟨rfl, i⟩)))).trans (handp (.inr (.inr (.inl p)))).symm) (by omega)
  | po11 _ p i w b a =>
    have hB : Bl s.cs own = gt s.cs 1 := Bl_up (lowp (.inr (.inr (.inr ⟨p, i⟩))))
    rw [hB] at g3 g4 g5
    have hnx : own.next = own.b := by unfold DOp.next; rw [if_neg (by omega), if_pos i]
    refine ⟨_, _, by rw [req11 hb0 p, hnx]; exact st_ok (s := s) (a := 1) (d (by omega) (by omega)), ?_⟩
    rw [show own.after 0 = { own with pc := 2 } from by simp [DOp.after, DOp.popped, k, p, i]]
    have s1 := set1 g (d (x := 1) (by omega) (by omega)).2 own.b
    have hB' : Bl (s.cs.set (1 : Int).toNat own.b) { own with pc := 2 } = gt s.cs 1 := by rw [Bl_lo (lo2 (o := { own with pc := 2 }) k rfl)]; show own.b + 1 = _; omega
    refine ⟨s1.dg g hn (hn' k) nn (by rw [hB']; exact g3) (by rw [hB', hB]; exact Int.le_refl _), .po2 k rfl i w s1.e1.symm (a.trans s1.eA.symm), fun th h => s1.th h fun v => ?_, .low k (by simp) (handp (.inr (.inr (.inr ⟨p, i⟩)))) ?_ s1.e0, s1.eC.trans (if_neg (by omega)).symm, .inl (by rw [hB]; exact Int.le_of_eq hB')⟩
    · rcases v with v | ⟨_, v, _⟩
      · by_cases q : gt s.cs 0 = own.b
        · exact .inr ⟨by rw [s1.e1]; exact q.symm, lo2 k rfl, q.symm, by simp⟩
        · exact .inl (by rw [s1.e1]; omega)
      · exact absurd v (lowp (.inr (.inr (.inr ⟨p, i⟩))))
    · have hh : hand (s.cs.set (1 : Int).toNat own.b) { own with pc := 2 } = if gt (s.cs.set (1 : Int).toNat own.b) 0 ≤ own.b then [cE (s.cs.set (1 : Int).toNat own.b) own.b] else [] := hand2 k (.inl rfl)
      show ctn s.cs = ctn (s.cs.set (1 : Int).toNat own.b) ++ hand (s.cs.set (1 : Int).toNat own.b) { own with pc := 2 }
      rw [hh, s1.e0, s1.eE]
      by_cases q : gt s.cs 0 ≤ own.b
      · rw [if_pos q, ctn_low (cs' := s.cs.set (1 : Int).toNat own.b) s1.e0 (by rw [s1.e1]; omega) (by omega) (fun i _ _ => s1.eE i), b]
      · rw [if_neg q, List.append_nil, ctn_nil (by omega), ctn_nil (by rw [s1.e1, s1.e0]; omega)]
  | po2 _ p i w b a =>
    have hB : Bl s.cs own = own.b + 1 := Bl_lo (lo2 k p)
    rw [hB] at g3 g4 g5
    refine ⟨_, _, by rw [req2 hb0 p]; exact ld_ok (d (by omega) (by omega)), ?_⟩
    by_cases q : own.b < gt s.cs 0
    · rw [show own.after (gt s.cs 0) = { own with t := gt s.cs 0, i := 1, pc := 11 } from by simp only [DOp.after, DOp.popped, k, p, if_true]; rw [if_neg (by decide), if_neg (by decide), if_neg (by decide), if_neg (by decide), if_pos q]]
      have hB' : Bl s.cs { own with t := gt s.cs 0, i := 1, pc := 11 } = own.b + 1 := Bl_lo (lo11 (o := { own with t := gt s.cs 0, i := 1, pc := 11 }) k rfl rfl)
      refine own_read g nn rfl (by rw [hB, hB']; exact Int.le_refl _) (by rw [hB']; exact g3) (fun v => ?_) (by rw [hn]; exact hn' k) (.pe k rfl rfl w b (by dsimp only; omega) (by dsimp only; omega)) (by simp) ?_ (by omega)
      · rcases v with v | ⟨v, _⟩ <;> omega
      · have h1 : hand s.cs { own with t := gt s.cs 0, i := 1, pc := 11 } = if own.won = true then [own.x] else [] := hand11 k rfl rfl
        rw [h1, w, hand2 k (.inl p), if_neg (show ¬ gt s.cs 0 ≤ own.b by omega)]; rfl
    · rw [show own.after (gt s.cs 0) = { own with t := gt s.cs 0, i := 1, pc := 4 } from by simp only [DOp.after, DOp.popped, k, p, if_true]; rw [if_neg (by decide), if_neg (by decide), if_neg (by decide), if_neg (by decide), if_neg q]]
      have hh : hand s.cs { own with t := gt s.cs 0, i := 1, pc := 4 } = hand s.cs own := by
        have h1 : hand s.cs { own with t := gt s.cs 0, i := 1, pc := 4 } = if gt s.cs 0 ≤ own.b then [cE s.cs own.b] else [] := hand2 k (.inr (.inl rfl))
        rw [h1, hand2 k (.inl p)]
      by_cases r : gt s.cs 0 = own.b
      · have hl : lowered { own with t := gt s.cs 0, i := 1, pc := 4 } := lo4 k (.inl rfl) r
        have hB' : Bl s.cs { own with t := gt s.cs 0, i := 1, pc := 4 } = own.b + 1 := Bl_lo hl
        exact own_read g nn rfl (by rw [hB, hB']; exact Int.le_refl _) (by rw [hB']; exact g3) (fun v => .inr ⟨by omega, hl, r.symm, by simp⟩) (by rw [hn]; exact hn' k) (.po4 k rfl rfl w b a g2 (Int.le_refl _) (by dsimp only; omega)) (by simp) hh (by omega)
      · have hB' : Bl s.cs { own with t := gt s.cs 0, i := 1, pc := 4 } = gt s.cs 1 := Bl_up (lo4n (.inl rfl) r)
        exact own_read g nn rfl (by rw [hB, hB']; omega) (by rw [hB']; omega) (fun v => .inl (by omega)) (by rw [hn]; exact hn' k) (.po4 k rfl rfl w b a g2 (Int.le_refl _) (by dsimp only; omega)) (by simp) hh (by omega)
  | po4 _ p i w b a t0 t tb =>
    refine ⟨_, _, by rw [req4 hb0 p, a]; exact ld_ok (d (by omega) (by omega)), ?_⟩
    rw [show own.after (gt s.cs (cA s.cs)) = { own with c := cC s.cs, pc := 12 } from by simp only [DOp.after, DOp.popped, k, p, if_true]; rw [if_neg (by decide), if_neg (by decide), if_neg (by decide), if_neg (by decide), if_neg (by decide), if_neg (show ¬ gt s.cs (cA s.cs) < 1 from (show ¬ cC s.cs < 1 by omega))]]
    have hB' : Bl s.cs { own with c := cC s.cs, pc := 12 } = Bl s.cs own := by
      by_cases e : own.t = own.b
      · rw [Bl_lo (lo4 k (.inl p) e)]; exact Bl_lo (lo4 (o := { own with c := cC s.cs, pc := 12 }) k (.inr (.inl rfl)) e)
      · rw [Bl_up (lo4n (.inl p) e)]; exact Bl_up (lo4n (o := { own with c := cC s.cs, pc := 12 }) (.inr (.inl rfl)) e)
    refine own_read g nn rfl (by rw [hB']; exact Int.le_refl _) (by rw [hB']; exact g3) (fun v => ?_) (by rw [hn]; exact hn' k) (.po12 k rfl i w b a t0 t tb rfl) (by simp) ?_ (by omega)
    · rcases v with v | ⟨v1, v2, v3, v4⟩
      · exact .inl v
      · refine .inr ⟨v1, lo4 k (.inr (.inl rfl)) ?_, v3, by simp⟩
        show own.t = own.b
        exact Classical.byContradiction fun e => lo4n (.inl p) e v2
    · exact (hand2 (o := { own with c := cC s.cs, pc := 12 }) k (.inr (.inr (.inl rfl)))).trans (hand2 k (.inr (.inl p))).symm
  | po12 _ p i w b a t0 t tb c =>
    have hpl : placeD own.a own.c own.b = pl (cA s.cs) (cC s.cs) own.b := by rw [a, c]; exact placeD_pl (by omega) (by omega) (by omega) (by omega) (by omega)
    have hr := pl_range (a := cA s.cs) (i := own.b) g8
    refine ⟨_, _, by rw [req12 hb0 p, if_pos k, hpl]; exact ld_ok (d (by omega) (by omega)), ?_⟩
    have hTb : gt s.cs 0 ≤ own.b + 1 ∧ (own.t < own.b → gt s.cs 0 ≤ own.b) := by
      by_cases e : own.t = own.b
      · rw [Bl_lo (lo4 k (.inr (.inl p)) e)] at g3; omega
      · rw [Bl_up (lo4n (.inr (.inl p)) e)] at g3; omega
    by_cases q : own.t < own.b
    · rw [show own.after (gt s.cs (pl (cA s.cs) (cC s.cs) own.b)) = DOp.over { own with x := cE s.cs own.b, pc := 13 } 4 (cE s.cs own.b) from by simp only [DOp.after, DOp.popped, k, p, if_true]; rw [if_neg (by decide), if_neg (by decide), if_neg (by decide), if_neg (by decide), if_neg (by decide), if_neg (by decide), if_pos q]]
      have hB : Bl s.cs own = gt s.cs 1 := Bl_up (lo4n (.inr (.inl p)) (by omega))
      refine ⟨g.own (by rw [hB]; exact Bl_up (lowp (.inl rfl))) (by rw [hn]; exact hn' k) nn, .idle rfl, fun th h => h.own fun v => ?_, .got k rfl rfl rfl ?_ (handp (.inl rfl)) rfl (.inl ⟨q, p⟩), (if_neg (by omega)).symm, .inl (by rw [hB]; exact Int.le_of_eq (Bl_up (lowp (.inl rfl))))⟩
      · rcases v with v | ⟨_, v, _⟩
        · exact .inl v
        · exact absurd v (lo4n (.inr (.inl p)) (by omega))
      · rw [hand2 k (.inr (.inr (.inl p))), if_pos (hTb.2 q)]; rfl
    · rw [show own.after (gt s.cs (pl (cA s.cs) (cC s.cs) own.b)) = { own with x := cE s.cs own.b, pc := 13 } from by simp only [DOp.after, DOp.popped, k, p, if_true]; rw [if_neg (by decide), if_neg (by decide), if_neg (by decide), if_neg (by decide), if_neg (by decide), if_neg (by decide), if_neg q]]
      have e : own.t = own.b := by omega
      have hB : Bl s.cs own = own.b + 1 := Bl_lo (lo4 k (.inr (.inl p)) e)
      have hl : lowered { own with x := cE s.cs own.b, pc := 13 } := lo4 k (.inr (.inr rfl)) e
      have hB' : Bl s.cs { own with x := cE s.cs own.b, pc := 13 } = own.b + 1 := Bl_lo hl
      refine own_read g nn rfl (by rw [hB, hB']; exact Int.le_refl _) (by rw [hB']; exact hTb.1) (fun v => ?_) (by rw [hn]; exact hn' k) (.po13 k rfl i w b t0 t e rfl) (by simp) ?_ (by omega)
      · rcases v with v | ⟨v1, v2, v3, v4⟩
        · exact .inl v
        · exact .inr ⟨v1, hl, v3, by simp⟩
      · exact (hand2 (o := { own with x := cE s.cs own.b, pc := 13 }) k (.inr (.inr (.inr rfl)))).trans (hand2 k (.inr (.inr (.inl p)))).symm
  | po13 _ p i w b t0 t tb x =>
    have hB : Bl s.cs own = own.b + 1 := Bl_lo (lo4 k (.inr (.inr p)) tb)
    rw [hB] at g3 g4 g5
    have wt : w64 (own.t + 1) = own.t + 1 := by rw [w64_of] <;> omega
    by_cases q : gt s.cs 0 = own.t
    · refine ⟨_, _, by rw [req13 hb0 p, wt]; exact cas_ok (d (by omega) (by omega)) q, ?_⟩
      rw [show own.after 1 = { own with won := true, pc := 11 } from by simp [DOp.after, DOp.popped, k, p]]
      have far : ∀ y, 0 ≤ y → y ≠ 0 → gt (s.cs.set (0 : Int).toNat (own.t + 1)) y = gt s.cs y := fun y h0 hx => gt_set_ne (by omega) h0 hx
      have e0 : gt (s.cs.set (0 : Int).toNat (own.t + 1)) 0 = own.t + 1 := by rw [gt_set (by omega) (by omega) (by omega), if_pos rfl]
      have e1 := far 1 (by omega) (by omega)
      have eA : cA (s.cs.set (0 : Int).toNat (own.t + 1)) = cA s.cs := far 2 (by omega) (by omega)
      have eC : cC (s.cs.set (0 : Int).toNat (own.t + 1)) = cC s.cs := by show gt _ (cA _) = _; rw [eA]; exact far _ (by omega) (by omega)
      have hB' : Bl (s.cs.set (0 : Int).toNat (own.t + 1)) { own with won := true, pc := 11 } = own.b + 1 := Bl_lo (lo11 (o := { own with won := true, pc := 11 }) k rfl i)
      refine ⟨⟨g1, by show 0 ≤ gt (s.cs.set _ _) 0; rw [e0]; omega, by show gt (s.cs.set _ _) 0 ≤ Bl (s.cs.set _ _) _; rw [hB', e0]; omega, by show Bl (s.cs.set _ _) _ - gt (s.cs.set _ _) 0 ≤ cC (s.cs.set _ _); rw [hB', e0, eC]; omega, by show Bl (s.cs.set _ _) _ ≤ _; rw [hB']; omega, nn,
        by show 3 ≤ cA (s.cs.set _ _); rw [eA]; exact g7, by show 1 ≤ cC (s.cs.set _ _); rw [eC]; exact g8, by show cC (s.cs.set _ _) ≤ most; rw [eC]; exact g9, by show ((s.cs.set _ _).length : Int) = cA (s.cs.set _ _) + cC (s.cs.set _ _) + 1 + newer _; rw [eA, eC, List.length_set, hn' (o := { own with won := true, pc := 11 }) k]; exact g10, g11, by show ((s.cs.set _ _).length : Int) ≤ sz; rw [List.length_set]; exact g12,
        by show ∃ k : Nat, most - cC (s.cs.set _ _) ≤ (k : Int) ∧ cellsGo most k (cA (s.cs.set _ _) + cC (s.cs.set _ _) + 1) (cC (s.cs.set _ _)) = sz; rw [eA, eC]; exact g13⟩,
        .pf k rfl i (by show own.b = gt (s.cs.set _ _) 1; rw [e1]; exact b) tb (by show gt (s.cs.set _ _) 0 = own.b + 1; rw [e0]; omega), fun th h => h.bump (by show gt (s.cs.set _ _) 0 = _; rw [e0]; omega) (fun y hb => ?_), .won k (by simp) ?_ ?_ (by show gt (s.cs.set _ _) 0 = _; rw [e0]; omega), by show cC (s.cs.set _ _) = _; rw [eC, if_neg (by omega)], .inl (by rw [hB]; exact Int.le_of_eq hB')⟩
      · obtain ⟨b1, b2, b3, b4⟩ := hb
        have ey : gt (s.cs.set (0 : Int).toNat (own.t + 1)) y = gt s.cs y := far y (by omega) (by omega)
        exact ⟨⟨b1, by show 1 ≤ gt (s.cs.set _ _) y; rw [ey]; exact b2, by show gt (s.cs.set _ _) y ≤ 4096; rw [ey]; exact b3, by show y = cA (s.cs.set _ _) ∨ y + gt (s.cs.set _ _) y + 1 ≤ cA (s.cs.set _ _); rw [ey, eA]; exact b4⟩, ey⟩
      · show ctn (s.cs.set _ _) = ctn s.cs
        rw [ctn_nil (cs := s.cs) (by omega), ctn_nil (by rw [e1, e0]; omega)]
      · have h1 : hand (s.cs.set (0 : Int).toNat (own.t + 1)) { own with won := true, pc := 11 } = if true = true then [own.x] else [] := hand11 k rfl i
        show hand (s.cs.set _ _) _ = _
        rw [h1, if_pos rfl, hand2 k (.inr (.inr (.inr p))), if_pos (by omega), x]
    · refine ⟨_, _, by rw [req13 hb0 p, wt]; exact cas_no (d (by omega) (by omega)) q, ?_⟩
      rw [show own.after 0 = { own with won := false, pc := 11 } from by simp [DOp.after, DOp.popped, k, p]]
      have hB' : Bl s.cs { own with won := false, pc := 11 } = own.b + 1 := Bl_lo (lo11 (o := { own with won := false, pc := 11 }) k rfl i)
      refine own_read g nn rfl (by rw [hB, hB']; exact Int.le_refl _) (by rw [hB']; exact g3) (fun v => ?_) (by rw [hn]; exact hn' k) (.pf k rfl i b tb (by dsimp only; omega)) (by simp) ?_ (by omega)
      · rcases v with v | ⟨v, _⟩ <;> omega
      · have h1 : hand s.cs { own with won := false, pc := 11 } = if false = true then [own.x] else [] := hand11 k rfl i
        rw [h1, hand2 k (.inr (.inr (.inr p))), if_neg (show ¬ gt s.cs 0 ≤ own.b by omega)]; rfl
  | pe _ p i w b t tt =>
    have hB : Bl s.cs own = own.b + 1 := Bl_lo (lo11 k p i)
    rw [hB] at g3 g4 g5
    have hnx : own.next = own.t := by unfold DOp.next; rw [if_neg (by omega), if_neg (by omega), if_pos (by omega)]
    refine ⟨_, _, by rw [req11 hb0 p, hnx]; exact st_ok (s := s) (a := 1) (d (by omega) (by omega)), ?_⟩
    rw [show own.after 0 = own.over 5 0 from by simp [DOp.after, DOp.popped, k, p, i, w]]
    have s1 := set1 g (d (x := 1) (by omega) (by omega)).2 own.t
    have hB' : Bl (s.cs.set (1 : Int).toNat own.t) (own.over 5 0) = own.t := (Bl_up (lowp (.inl rfl))).trans s1.e1
    refine ⟨s1.dg g hn (hn' k) nn (by rw [hB']; omega) (by rw [hB', hB]; omega), .idle rfl, fun th h => s1.th h fun v => ?_, .empty k rfl rfl rfl ?_ ?_ (handp (.inl rfl)) s1.e0 (.inl t) p i, s1.eC.trans (if_neg (by omega)).symm, .inl (by rw [hB]; exact Int.le_trans (Int.le_of_eq hB') (by omega))⟩
    · rcases v with v | ⟨v, _⟩ <;> omega
    · show ctn (s.cs.set _ _) = _
      rw [ctn_nil (cs := s.cs) (by omega), ctn_nil (by rw [s1.e0, s1.e1]; omega)]
    · rw [hand11 k p i, w]; rfl
  | pf _ p i b t tt =>
    have hB : Bl s.cs own = own.b + 1 := Bl_lo (lo11 k p i)
    rw [hB] at g3 g4 g5
    have wt : w64 (own.t + 1) = own.b + 1 := by rw [t, w64_of] <;> omega
    have hnx : own.next = own.b + 1 := by unfold DOp.next; rw [if_neg (by omega), if_neg (by omega), if_neg (by omega), wt]
    refine ⟨_, _, by rw [req11 hb0 p, hnx]; exact st_ok (s := s) (a := 1) (d (by omega) (by omega)), ?_⟩
    have s1 := set1 g (d (x := 1) (by omega) (by omega)).2 (own.b + 1)
    have hc : ctn (s.cs.set (1 : Int).toNat (own.b + 1)) = ctn s.cs := by rw [ctn_nil (cs := s.cs) (by omega), ctn_nil (by rw [s1.e0, s1.e1]; omega)]
    cases w : own.won with
    | true =>
      rw [show own.after 0 = own.over 4 own.x from by simp [DOp.after, DOp.popped, k, p, i, w]]
      have hB' : Bl (s.cs.set (1 : Int).toNat (own.b + 1)) (own.over 4 own.x) = own.b + 1 := (Bl_up (lowp (.inl rfl))).trans s1.e1
      refine ⟨s1.dg g hn (hn' k) nn (by rw [hB']; omega) (by rw [hB', hB]; omega), .idle rfl, fun th h => s1.th h fun v => ?_, .got k rfl rfl hc ?_ (handp (.inl rfl)) s1.e0 (.inr ⟨t, p, i, w⟩), s1.eC.trans (if_neg (by omega)).symm, .inl (by rw [hB]; exact Int.le_of_eq hB')⟩
      · rcases v with v | ⟨v, _⟩ <;> omega
      · rw [hand11 k p i, w]; rfl
    | false =>
      rw [show own.after 0 = own.over 5 0 from by simp [DOp.after, DOp.popped, k, p, i, w]]
      have hB' : Bl (s.cs.set (1 : Int).toNat (own.b + 1)) (own.over 5 0) = own.b + 1 := (Bl_up (lowp (.inl rfl))).trans s1.e1
      refine ⟨s1.dg g hn (hn' k) nn (by rw [hB']; omega) (by rw [hB', hB]; omega), .idle rfl, fun th h => s1.th h fun v => ?_, .empty k rfl rfl rfl hc ?_ (handp (.inl rfl)) s1.e0 (.inr ⟨t, w⟩) p i, s1.eC.trans (if_neg (by omega)).symm, .inl (by rw [hB]; exact Int.le_of_eq hB')⟩
      · rcases v with v | ⟨v, _⟩ <;> omega
      · rw [hand11 k p i, w]; rfl

end Go.Mx
