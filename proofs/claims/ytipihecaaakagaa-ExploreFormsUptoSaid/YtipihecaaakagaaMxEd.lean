/-
  copied of a scene; Check of the program and of the reference.
-/
import Derived.Test.YtipihecaaakagaaMxEc
set_option linter.unusedVariables false
set_option linter.unusedSimpArgs false
namespace Go.Mx

theorem sep_grow {t ls ls' r : Sl} {cls : List Sl} (h : List.Pairwise Apart (t :: ls :: cls)) (h1 : Apart t ls') (h2 : ∀ c ∈ cls, Apart ls' c) (h3 : Apart ls' r) (h4 : Apart t r) (h5 : ∀ c ∈ cls, Apart c r) : List.Pairwise Apart (t :: ls' :: (cls ++ [r])) := by
  obtain ⟨a1, a2⟩ := List.pairwise_cons.1 h
  obtain ⟨a3, a4⟩ := List.pairwise_cons.1 a2
  refine List.pairwise_cons.2 ⟨fun x hx => ?_, List.pairwise_cons.2 ⟨fun x hx => ?_, List.pairwise_append.2 ⟨a4, by simp, fun x hx y hy => ?_⟩⟩⟩
  · rcases List.mem_cons.1 hx with rfl | hx
    · exact h1
    · rcases List.mem_append.1 hx with hx | hx
      · exact a1 x (by simp [hx])
      · obtain rfl : x = r := by simpa using hx
        exact h4
  · rcases List.mem_append.1 hx with hx | hx
    · exact h2 x hx
    · obtain rfl : x = r := by simpa using hx
      exact h3
  · obtain rfl : y = r := by simpa using hy
    exact h5 x hx


/-! ### Check -/
def actsE (xss : List (List Ac)) : Int := xss.foldl (fun n l => w64 (n + (l.length : Int))) 0
def badE (x : Ac) : Bool := decide ((x.2.1 : Int) < 0) || decide ((4 : Int) < x.2.1)
def badsE (xss : List (List Ac)) : Bool := xss.any fun l => l.any badE
def chkE (sz : Int) (nb : Nat) (xss : List (List Ac)) : Int :=
  if sz < 0 ∨ 64 < sz then 3 else if sz < nb ∨ 4 < xss.length ∨ 10 < actsE xss then 2 else if badsE xss = true then 23 else 0

theorem check_spec {s : Sc} {h : Heap} {bs : List Int} {xss : List (List Ac)} (r : ScR h s bs xss) (hs : Small bs xss) {Q : Int → Heap → Prop} (hQ : Q (chkE s.1 bs.length xss) h) : explore_Check.M s h Q := by
  obtain ⟨size, bg, lsl, u0⟩ := s
  change Int at size
  obtain ⟨r1, sls, r2, r3, r4⟩ := r
  dsimp only at r1 r2
  have hbl : bg.len = bs.length := r1.1.symm
  have hsl : lsl.len = xss.length := by rw [← r3, r2.1]
  have hs2 := hs.2.1
  have hQ : Q (chkE size bs.length xss) h := hQ
  have rs : ∀ (i : Nat) (hi : i < xss.length) {K : Sl → Prop}, K (sls[i]'(by omega)) → (0 ≤ (i : Int) ∧ (i : Int) < (lsl.len : Int)) ∧ deref lsl.a fun a => ld (.sl : Kd) h (a.add ((i : Int).toNat * 1)) K := by
    intro i hi K hK
    refine ⟨⟨Int.natCast_nonneg i, by omega⟩, r2.at (Int.natCast_nonneg i) (by omega) rfl fun x hx => ?_⟩
    rw [Int.toNat_natCast, show sls[i]? = some (sls[i]'(by omega)) from by simp] at hx
    cases hx
    exact hK
  have hsr : ∀ (i : Nat) (hi : i < xss.length), Arr h kapiAct (sls[i]'(by omega)) xss[i] := fun i hi => r4 i _ _ (by simp) (by simp)
  have j9 : ∀ b : Bool, b = decide (size < 0 ∨ 64 < size) → explore_Check.j9 (size, bg, lsl, u0) Q (b, ()) h := by
    rintro b rfl
    refine ⟨fun e => ?_, fun e => ?_⟩
    · have e := of_decide_eq_true e
      rw [chkE, if_pos e] at hQ
      exact hQ
    have e := of_decide_eq_false e
    rw [chkE, if_neg e] at hQ
    refine Loop.up lsl.len (fun s => s.2.1) (fun i s k => k = h ∧ s.1 = actsE (xss.take i)) rfl ⟨rfl, rfl⟩ ?_
    rintro i ⟨n, j, u⟩ k go hi hc ⟨rfl, hn⟩ hgo
    dsimp only at hc hn; subst hc
    refine ⟨fun q => ?_, fun q => ?_⟩
    · have q : (i : Int) < (lsl.len : Int) := of_decide_eq_true q
      have q' : i < lsl.len := by omega
      refine rs i (by omega) ?_
      refine hgo q' _ _ (w64_up q' (by omega)) ⟨rfl, ?_⟩
      have hl := (hsr i (by omega)).1
      rw [take_succ' xss (by omega : i < xss.length)]
      unfold actsE
      rw [List.foldl_append]
      show w64 (n + _) = _
      rw [hn, ← hl]
      rfl
    have q : ¬ (i : Int) < (lsl.len : Int) := of_decide_eq_false q
    rw [List.take_of_length_le (by omega)] at hn
    subst hn
    have j6 : ∀ b : Bool, b = decide (size < bs.length ∨ 4 < xss.length ∨ 10 < actsE xss) → explore_Check.j6 (size, bg, lsl, u0) Q (b, ()) k := by
      rintro b rfl
      refine ⟨fun e => ?_, fun e => ?_⟩
      · have e := of_decide_eq_true e
        rw [if_pos e] at hQ
        exact hQ
      have e := of_decide_eq_false e
      rw [if_neg e] at hQ
      clear hgo q hi
      refine Loop.up lsl.len (fun s => s.1) (fun i s k' => k' = k ∧ badsE (xss.take i) = false) rfl ⟨rfl, rfl⟩ ?_
      rintro i ⟨j, u⟩ k2 go hi hc ⟨rfl, hn⟩ hgo
      dsimp only at hc; subst hc
      refine ⟨fun q => ?_, fun q => ?_⟩
      · have q : (i : Int) < (lsl.len : Int) := of_decide_eq_true q
        have q' : i < lsl.len := by omega
        have hi' : i < xss.length := by omega
        have hr := hsr i hi'
        have hsm : (xss[i]).length ≤ 1048576 := hs.at (i := i) (by simp)
        have hl1 : (sls[i]'(by omega)).len = xss[i].length := hr.1.symm
        refine rs i hi' ?_
        refine Loop.up (sls[i]'(by omega)).len (fun s => s.1) (fun j s k3 => k3 = k2 ∧ (xss[i].take j).any badE = false) rfl ⟨rfl, rfl⟩ ?_
        rintro j ⟨j', u'⟩ k3 go2 hj hc ⟨rfl, hm⟩ hgo2
        dsimp only at hc; subst hc
        refine ⟨fun p => ?_, fun p => ?_⟩
        · have p : (j : Int) < ((sls[i]'(by omega)).len : Int) := of_decide_eq_true p
          have p' : j < (sls[i]'(by omega)).len := by omega
          have hj' : j < xss[i].length := by omega
          refine ⟨⟨Int.natCast_nonneg j, p⟩, hr.at (Int.natCast_nonneg j) p rfl fun x hx => ?_⟩
          obtain rfl : xss[i][j] = x := by simpa [hj'] using hx
          have j2 : ∀ b : Bool, b = badE xss[i][j] → explore_Check.j2 Q go2 ((j : Int), u') (b, ()) k3 := by
            rintro b rfl
            refine ⟨fun f => ?_, fun f => ?_⟩
            · have f : badE xss[i][j] = true := f
              have hb : badsE xss = true := by
                unfold badsE
                rw [List.any_eq_true]
                exact ⟨xss[i], by simp, List.any_eq_true.2 ⟨xss[i][j], by simp, f⟩⟩
              rw [if_pos hb] at hQ
              exact hQ
            · have f : badE xss[i][j] = false := f
              refine hgo2 p' _ _ (w64_up p' (by omega)) ⟨rfl, ?_⟩
              rw [take_succ' xss[i] hj', List.any_append, hm]
              simp [f]
          refine ⟨fun f => j2 _ ?_, fun f => j2 _ ?_⟩
          · unfold badE; rw [show decide ((xss[i][j].2.1 : Int) < 0) = true from f]; rfl
          · unfold badE; rw [show decide ((xss[i][j].2.1 : Int) < 0) = false from f]; rfl
        · have p : ¬ (j : Int) < ((sls[i]'(by omega)).len : Int) := of_decide_eq_false p
          rw [List.take_of_length_le (by omega)] at hm
          refine hgo q' _ _ (w64_up q' (by omega)) ⟨rfl, ?_⟩
          unfold badsE at hn ⊢
          rw [take_succ' xss hi', List.any_append, hn]
          simp [hm]
      · have q : ¬ (i : Int) < (lsl.len : Int) := of_decide_eq_false q
        rw [List.take_of_length_le (by omega)] at hn
        rw [if_neg (by rw [hn]; decide)] at hQ
        exact hQ
    refine ⟨fun f => j6 _ ?_, fun f => ⟨fun g => j6 _ ?_, fun g => j6 _ ?_⟩⟩
    · have f : size < (bg.len : Int) := of_decide_eq_true f
      exact (decide_eq_true (.inl (by omega))).symm
    · have g : (4 : Int) < (lsl.len : Int) := of_decide_eq_true g
      exact (decide_eq_true (.inr (.inl (by omega)))).symm
    · have f : ¬ size < (bg.len : Int) := of_decide_eq_false f
      have g : ¬ (4 : Int) < (lsl.len : Int) := of_decide_eq_false g
      refine decide_eq_decide.2 ⟨fun x => .inr (.inr x), fun x => ?_⟩
      rcases x with x | x | x
      · omega
      · omega
      · exact x
  refine ⟨fun f => j9 _ ?_, fun f => j9 _ ?_⟩
  · have f : size < 0 := of_decide_eq_true f
    exact (decide_eq_true (.inl f)).symm
  · have f : ¬ size < 0 := of_decide_eq_false f
    exact decide_eq_decide.2 ⟨fun x => .inr x, fun x => x.resolve_left f⟩




/-! ### the laws -/

theorem Scn.small {h0 h c cls mk bs bs' xss xss'} (o : Scn h0 h c cls mk bs' xss') (hs : Small bs xss) (a : bs.length = bs'.length) (b : Like xss xss') : Small bs' xss' := by
  refine ⟨a ▸ hs.1, b.len ▸ hs.2.1, fun xs hx => ?_⟩
  obtain ⟨i, e⟩ := List.mem_iff_getElem?.1 hx
  have hi : i < xss.length := by rw [b.len]; exact (List.getElem?_eq_some_iff.1 e).1
  rw [← b.at (xs := xss[i]) (by simp) e]
  exact hs.at (i := i) (by simp)

theorem Scn.ext {h0 h h' c cls mk bs xss} (o : Scn h0 h c cls mk bs xss) {S : Nat → Prop} (e : Ext S h h') (d1 : ∀ x, fpS c cls x → ¬ S x) (d2 : ∀ x, blkOf c.2.2.1 x → ¬ S x) (d3 : ∀ x, blkOf mk x → ¬ S x) (f : ∀ x, S x → h0 x = none) : Scn h0 h' c cls mk bs xss :=
  ⟨o.beg.ext e (fun x q => d1 x (.inl q)) f, o.ls.ext e d2 f, o.lone.ext e d3 f, o.len, fun i sl xs a b => (o.row i sl xs a b).ext e (fun x q => d1 x (.inr ⟨sl, List.mem_of_getElem? a, q⟩)) f, o.sep⟩
theorem Scn.live {h0 h c cls mk bs xss} (o : Scn h0 h c cls mk bs xss) {x : Nat} (hx : fpS c cls x ∨ blkOf c.2.2.1 x ∨ blkOf mk x) : h x ≠ none := by
  rcases hx with (q | ⟨sl, hm, q⟩) | q | q
  · exact o.beg.own.live x q
  · obtain ⟨i, e⟩ := List.mem_iff_getElem?.1 hm
    have hi : i < xss.length := by rw [← o.len]; exact (List.getElem?_eq_some_iff.1 e).1
    exact (o.row i sl xss[i] e (by simp)).own.live x q
  · exact o.ls.own.live x q
  · exact o.lone.own.live x q
theorem Scn.fresh {h0 h c cls mk bs xss} (o : Scn h0 h c cls mk bs xss) {x : Nat} (hx : fpS c cls x) : h0 x = none := by
  rcases hx with q | ⟨sl, hm, q⟩
  · exact o.beg.new x q
  · obtain ⟨i, e⟩ := List.mem_iff_getElem?.1 hm
    have hi : i < xss.length := by rw [← o.len]; exact (List.getElem?_eq_some_iff.1 e).1
    exact (o.row i sl xss[i] e (by simp)).new x q

end Go.Mx
