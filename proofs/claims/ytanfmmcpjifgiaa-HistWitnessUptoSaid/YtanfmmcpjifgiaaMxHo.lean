/-
  HistWitness: the walk.
-/
import Derived.Test.YtanfmmcpjifgiaaMxHn
set_option linter.unusedVariables false
set_option linter.unusedSimpArgs false
namespace Go.Mx

theorem Plain.hist {cs : List Cl} {most : Int} (p : Plain cs most) : HistN cs cs.length := by
  intro i b hi hb
  obtain ⟨s1, s2, s3, s4, s5, s6⟩ := p.shape i b hb
  refine ⟨?_, fun j a hj ha hbad => ?_⟩
  · show SoundI (cWho b) (cKind b) (cBg b) (cEn b) (cCode b)
    unfold SoundI May
    omega
  · obtain ⟨_, _, _, a4, a5, _⟩ := p.shape j a ha
    have := hbad.2
    omega
theorem Plain.legal {cs : List Cl} {most : Int} (p : Plain cs most) : LegalL cs most (iL (List.range cs.length)) := by
  have hlen : (iL (List.range cs.length)).length = cs.length := by simp [iL]
  refine ⟨by rw [hlen]; exact p.steps cs.length (Nat.le_refl _), ?_, fun i c hi hc _ => ⟨i, iL_range hi⟩⟩
  intro i q kp kq a b hpq hq hkp hkq ha hb hah
  rw [hlen] at hq
  rw [iL_range (by omega)] at hkp
  rw [iL_range hq] at hkq
  cases hkp; cases hkq
  rw [Int.toNat_natCast] at ha hb
  obtain ⟨_, _, _, h1, _⟩ := p.shape i a ha
  obtain ⟨_, _, _, _, h2, _⟩ := p.shape q b hb
  have := hah.2
  omega

theorem mod4_spec {x n : Int} (h0 : 0 < n) (h1 : n ≤ 1000) {h : Heap} {Q : Int → Heap → Prop} (hQ : ∀ r, 0 ≤ r → r < n → Q r h) : law4_mod.M x n h Q := by
  have a := Int.tmod_lt_of_pos x h0
  have b : -n < Int.tmod x n := by
    rcases Int.le_total 0 x with hx | hx
    · have := Int.tmod_nonneg n hx; omega
    · have h2 : Int.tmod x n = -(Int.tmod (-x) n) := by rw [Int.neg_tmod]; omega
      have := Int.tmod_lt_of_pos (-x) h0
      omega
  refine ⟨by omega, fun d => ?_, fun d => ?_⟩
  · have d : Int.tmod x n < 0 := of_decide_eq_true d
    have w : w64 (Int.tmod x n + n) = Int.tmod x n + n := by rw [w64_of] <;> omega
    show Q (w64 (Int.tmod x n + n)) h
    rw [w]
    exact hQ _ (by omega) (by omega)
  · have d : ¬ Int.tmod x n < 0 := of_decide_eq_false d
    exact hQ _ (by omega) a

def ag4 (f : Fin 4 → Int) (w : Nat) : Int := aget (n := 4) (a := ki) f w
structure LastW (cs l : List Cl) (f : Fin 4 → Int) : Prop where
  lo : ∀ w : Nat, w < 4 → 0 ≤ ag4 f w
  up : ∀ w : Nat, w < 4 → ∀ (k : Nat) d, l[k]? = some d → cWho d = (w : Int) → cEn d < ag4 f w
  of : ∀ w : Nat, w < 4 → ag4 f w = 0 ∨ ∃ (k : Nat) (d : Cl), l[k]? = some d ∧ cWho d = (w : Int) ∧ ag4 f w = cEn d + 1

abbrev Wi := Den klaw4Wide
theorem widened_spec {calls wide : Sl} {h : Heap} {cs : List Cl} {vs : List Wi} {most : Int} (ha : Arr h kapiCall calls cs) (hw : Arr h klaw4Wide wide vs) (hl : cs.length ≤ 40) (p : Plain cs most) {c1 : Int → Int → Heap → (Int → Heap → Prop) → Prop} (i1 : ∀ {x n h Q}, law4_mod.M x n h Q → c1 x n h Q)
    {Q : Sl → Heap → Prop} (hQ : ∀ s h' l, New h h' kapiCall s l → Wd cs l cs.length → Q s h') : law4_widened.M c1 calls wide h Q := by
  have hcl : cs.length = calls.len := ha.1
  have hvl : vs.length = wide.len := hw.1
  refine Loop.up cs.length (fun s => s.2.1) (fun n s k => ∃ l, New h k kapiCall s.1 l ∧ Wd cs l n ∧ LastW cs l s.2.2.1.1) rfl ⟨[], New.nil h _, ⟨rfl, fun k c d _ hd => by simp at hd, fun k k' d d' _ hd => by simp at hd⟩, ⟨fun w hw => ?_, fun w hw k d hd => by simp at hd, fun w hw => .inl ?_⟩⟩ ?_
  · unfold ag4 aget; rw [dif_pos hw]; exact Int.le_refl _
  · unfold ag4 aget; rw [dif_pos hw]
  rintro n ⟨acc, n', ⟨f, u1⟩, u⟩ k go hn hc ⟨l, nl, W, L⟩ hgo
  dsimp only at hc nl L; subst hc
  have last : ¬ (n : Int) < (calls.len : Int) → Q acc k := fun e => by
    obtain rfl : n = cs.length := by omega
    exact hQ acc k l nl W
  refine ⟨fun e => ?_, fun e => last (of_decide_eq_false e)⟩
  have e : (n : Int) < (calls.len : Int) := of_decide_eq_true e
  have hnl : n < cs.length := by omega
  have hbn : (0 : Int) ≤ (n : Int) := by omega
  refine ⟨⟨hbn, e⟩, (ha.le nl.le).at hbn e rfl fun c hc => ?_⟩
  rw [Int.toNat_natCast] at hc
  obtain ⟨s1, s2, s3, s4, s5, s6⟩ := p.shape n c hc
  have wat : w64 (w64 (100 * (n : Int)) + 50) = 100 * (n : Int) + 50 := by
    have : w64 (100 * (n : Int)) = 100 * (n : Int) := by rw [w64_of] <;> omega
    rw [this, w64_of] <;> omega
  have nll : l.length = acc.len := nl.len
  have hWl := W.len
  -- the call, once who makes it is known
  have j4 : ∀ (wv : Wi) (w : Nat), w < 4 → (cWho c = 0 → w = 0) → (cWho c ≠ 0 → 1 ≤ w) → law4_widened.j4 c1 calls go (acc, ((n : Int), ((f, u1), u))) (wv, ()) (((w : Int), (c.2.1, (c.2.2.1, (c.2.2.2.1, (c.2.2.2.2.1, (c.2.2.2.2.2.1, (c.2.2.2.2.2.2.1, ()))))))), ()) k := by
    intro wv w hw4 hw0 hw1
    have hb4 : (0 : Int) ≤ (w : Int) ∧ (w : Int) < (4 : Int) := by omega
    refine ⟨hb4, i1 (mod4_spec (by decide) (by decide) fun r15 q1 q2 => i1 (mod4_spec (by decide) (by decide) fun r17 q3 q4 => ?_))⟩
    dsimp only
    rw [wat, Int.toNat_natCast]
    have w1 : w64 (100 * (n : Int) + 50 - r15) = 100 * (n : Int) + 50 - r15 := by rw [w64_of] <;> omega
    have w2 : w64 (100 * (n : Int) + 50 + r17) = 100 * (n : Int) + 50 + r17 := by rw [w64_of] <;> omega
    rw [w1, w2, show aget (n := 4) (a := ki) f w = ag4 f w from rfl]
    -- what is known of the last call
    have group : ∀ (k' : Nat) d, l[k']? = some d → cWho d = (w : Int) → cEn d ≤ 100 * (n : Int) + 49 ∧ k' < n := fun k' d hd hwd => by
      have hk' : k' < n := by rw [← W.len]; exact (List.getElem?_eq_some_iff.1 hd).1
      have hck : cs[k']? = some (cs[k']'(by omega)) := by simp
      obtain ⟨_, a2, a3, _, _, _, _, a8⟩ := W.at' k' _ d hck hd
      obtain ⟨t1, _⟩ := p.shape k' _ hck
      refine ⟨a8 n c hk' hc ?_, hk'⟩
      rcases t1 with t1 | t1
      · have := a2 t1
        have : w = 0 := by omega
        rcases s1 with s1 | s1
        · omega
        · have := hw1 (by omega); omega
      · have := a3 (by omega)
        rcases s1 with s1 | s1
        · have := hw0 s1; omega
        · omega
    have l0 := L.lo w hw4
    have l1 : ag4 f w ≤ 100 * (n : Int) + 50 := by
      rcases L.of w hw4 with q | ⟨k', d, d1, d2, d3⟩
      · rw [q]; omega
      · have := (group k' d d1 d2).1
        rw [d3]; omega
    obtain ⟨B, hB⟩ : ∃ B : Int, (if ag4 f w < 100 * (n : Int) + 50 - r15 then 100 * (n : Int) + 50 - r15 else ag4 f w) = B := ⟨_, rfl⟩
    have hB1 : ag4 f w ≤ B ∧ B ≤ 100 * (n : Int) + 50 := by
      rw [← hB]
      by_cases q : ag4 f w < 100 * (n : Int) + 50 - r15
      · rw [if_pos q]; constructor <;> omega
      · rw [if_neg q]; exact ⟨Int.le_refl _, l1⟩
    rw [hB]
    -- the call joins
    have j2 : ∀ E : Int, 100 * (n : Int) + 50 ≤ E → E ≤ 100 * (n : Int) + 1050 → (∀ (j : Nat) e, n < j → cs[j]? = some e → cWho e = cWho c → E ≤ 100 * (j : Int) + 49) →
        law4_widened.j2 go (acc, ((n : Int), ((f, u1), u))) (((w : Int), (c.2.1, (c.2.2.1, (B, (E, (c.2.2.2.2.2.1, (c.2.2.2.2.2.2.1, ()))))))), ()) k := by
      intro E e1 e2 e3
      refine ⟨hb4, nl.app rfl rfl (by omega) fun t k2 nt => ?_⟩
      have wE : w64 (E + 1) = E + 1 := by rw [w64_of] <;> omega
      refine hgo hnl _ _ (w64_up' (n := cs.length) hnl (by omega)) ⟨l ++ [((w : Int), (c.2.1, (c.2.2.1, (B, (E, (c.2.2.2.2.2.1, (c.2.2.2.2.2.2.1, ())))))))], nt, ⟨by rw [List.length_append, W.len]; rfl, fun k' c' d hc' hd => ?_, fun k1 k' d d' hkk hd hd' hwho => ?_⟩, ?_⟩
      · by_cases q : k' < n
        · rw [List.getElem?_append_left (by rw [W.len]; exact q)] at hd
          exact W.at' k' c' d hc' hd
        · have hk' : k' = n := by
            have := (List.getElem?_eq_some_iff.1 hd).1
            rw [List.length_append, W.len] at this
            have : k' < n + 1 := this
            omega
          subst hk'
          rw [List.getElem?_append_right (by rw [W.len]; exact Nat.le_refl _), W.len, Nat.sub_self] at hd
          cases hd
          rw [hc] at hc'; cases hc'
          refine ⟨⟨rfl, rfl, rfl, rfl⟩, fun z => ?_, fun z => ?_, ?_, ?_, e1, e2, e3⟩
          · have := hw0 z; show ((w : Int)) = 0; omega
          · have := hw1 z; show (1 : Int) ≤ (w : Int) ∧ (w : Int) ≤ 3; omega
          · show (0 : Int) ≤ B; omega
          · show B ≤ _; exact hB1.2
      · by_cases q : k1 < n
        · rw [List.getElem?_append_left (by rw [W.len]; exact q)] at hd
          rw [List.getElem?_append_left (by rw [W.len]; omega)] at hd'
          exact W.seq k1 k' d d' hkk hd hd' hwho
        · have hk1 : k1 = n := by
            have := (List.getElem?_eq_some_iff.1 hd).1
            rw [List.length_append, W.len] at this
            have : k1 < n + 1 := this
            omega
          subst hk1
          rw [List.getElem?_append_right (by rw [W.len]; exact Nat.le_refl _), W.len, Nat.sub_self] at hd
          cases hd
          rw [List.getElem?_append_left (by rw [W.len]; omega)] at hd'
          have := L.up w hw4 k' d' hd' hwho
          show cEn d' < B
          omega
      · have ag : ∀ v, v < 4 → ag4 (aset (n := 4) (a := ki) f ((w : Int)).toNat (w64 (E + 1))) v = if v = w then E + 1 else ag4 f v := fun v hv => by
          rw [Int.toNat_natCast, wE]
          unfold ag4 aget aset
          rw [dif_pos hv, dif_pos hv]
        refine ⟨fun v hv => ?_, fun v hv k' d hd hwd => ?_, fun v hv => ?_⟩
        · show 0 ≤ ag4 (aset (n := 4) (a := ki) f ((w : Int)).toNat (w64 (E + 1))) v
          rw [ag v hv]
          split
          · omega
          · exact L.lo v hv
        · show cEn d < ag4 (aset (n := 4) (a := ki) f ((w : Int)).toNat (w64 (E + 1))) v
          rw [ag v hv]
          by_cases q : k' < n
          · rw [List.getElem?_append_left (by rw [W.len]; exact q)] at hd
            have := L.up v hv k' d hd hwd
            by_cases z : v = w
            · subst z; rw [if_pos rfl]; omega
            · rw [if_neg z]; exact this
          · have hk' : k' = n := by
              have := (List.getElem?_eq_some_iff.1 hd).1
              rw [List.length_append, W.len] at this
              have : k' < n + 1 := this
              omega
            subst hk'
            rw [List.getElem?_append_right (by rw [W.len]; exact Nat.le_refl _), W.len, Nat.sub_self] at hd
            cases hd
            have hwd : (w : Int) = (v : Int) := hwd
            rw [if_pos (by omega)]
            show E < E + 1
            omega
        · show ag4 (aset (n := 4) (a := ki) f ((w : Int)).toNat (w64 (E + 1))) v = 0 ∨ ∃ (k' : Nat) (d : Cl), _ ∧ _ ∧ ag4 (aset (n := 4) (a := ki) f ((w : Int)).toNat (w64 (E + 1))) v = cEn d + 1
          rw [ag v hv]
          by_cases z : v = w
          · subst z
            rw [if_pos rfl]
            exact .inr ⟨n, _, by rw [List.getElem?_append_right (by rw [W.len]; exact Nat.le_refl _), W.len, Nat.sub_self]; rfl, rfl, rfl⟩
          · rw [if_neg z]
            rcases L.of v hv with q | ⟨k', d, d1, d2, d3⟩
            · exact .inl q
            · exact .inr ⟨k', d, by rw [List.getElem?_append_left (List.getElem?_eq_some_iff.1 d1).1]; exact d1, d2, d3⟩
    -- the next call of the same side
    have wn : w64 ((n : Int) + 1) = ((n + 1 : Nat) : Int) := w64_up' (n := cs.length) hnl (by omega)
    rw [wn]
    refine Loop.up (cs.length - (n + 1)) (fun s => s.1 - ((n + 1 : Nat) : Int)) (fun m s k' => k' = k ∧ s.2.1 = ((w : Int), (c.2.1, (c.2.2.1, (B, (100 * (n : Int) + 50 + r17, (c.2.2.2.2.2.1, (c.2.2.2.2.2.2.1, ()))))))) ∧ ∀ (j : Nat) e, n < j → j < n + 1 + m → cs[j]? = some e → cWho e ≠ cWho c) (Int.sub_self _) ⟨rfl, rfl, fun j e h1 h2 => by omega⟩ ?_
    rintro m ⟨mm, cc, u3⟩ k3 go3 hm hcm ⟨rfl, hcc, hI⟩ hgo3
    dsimp only at hcm hcc
    subst hcc
    obtain rfl : mm = ((n + 1 + m : Nat) : Int) := by omega
    refine ⟨fun z => ?_, fun z => ?_⟩
    · have z : ((n + 1 + m : Nat) : Int) < (calls.len : Int) := of_decide_eq_true z
      have hbj : (0 : Int) ≤ ((n + 1 + m : Nat) : Int) := by omega
      have hjl : n + 1 + m < cs.length := by omega
      have hak := ha.le nl.le
      obtain ⟨ca, cn, cc⟩ := calls
      cases ca with
      | none => have := ha.2.2; dsimp only at *; omega
      | some ad =>
      have rd : ∀ (i : Nat) (c : Cl), (i : Int) < (cn : Int) → cs[i]? = some c → ∀ {K : Int → Prop}, K (cWho c) → ld ki k3 ((ad.add ((i : Int).toNat * 7)).add 0) K := fun i c hi hci K hK => by
        have := hak.part (kp := ki) (f := fun c => cWho c) (K := K) (Int.natCast_nonneg i) hi rfl (fun c => ⟨[], Kd.cells (.pair ki (.pair ki (.pair ki (.pair ki (.pair ki (.pair ki .nil)))))) c.2, rfl, rfl⟩) fun x hx => by
          rw [Int.toNat_natCast, hci] at hx; cases hx; exact hK
        exact this
      have hj : cs[n + 1 + m]? = some cs[n + 1 + m] := by simp
      refine ⟨⟨hbj, z⟩, ⟨hbn, e⟩, rd (n + 1 + m) _ z hj (rd n c e hc ⟨fun g => ?_, fun g => ?_⟩)⟩
      · have g : cWho cs[n + 1 + m] = cWho c := of_decide_eq_true g
        have wj : w64 (w64 (100 * ((n + 1 + m : Nat) : Int)) + 49) = 100 * ((n + 1 + m : Nat) : Int) + 49 := by
          have : w64 (100 * ((n + 1 + m : Nat) : Int)) = 100 * ((n + 1 + m : Nat) : Int) := by rw [w64_of] <;> omega
          rw [this, w64_of] <;> omega
        dsimp only
        rw [wj]
        have hE : ∀ E : Int, E = (if 100 * ((n + 1 + m : Nat) : Int) + 49 < 100 * (n : Int) + 50 + r17 then 100 * ((n + 1 + m : Nat) : Int) + 49 else 100 * (n : Int) + 50 + r17) → 100 * (n : Int) + 50 ≤ E ∧ E ≤ 100 * (n : Int) + 1050 ∧ E ≤ 100 * ((n + 1 + m : Nat) : Int) + 49 := fun E hE => by
          by_cases q : 100 * ((n + 1 + m : Nat) : Int) + 49 < 100 * (n : Int) + 50 + r17
          · rw [if_pos q] at hE; omega
          · rw [if_neg q] at hE; omega
        obtain ⟨x1, x2, x3⟩ := hE _ rfl
        refine j2 _ x1 x2 fun j e' h1 h2 h3 => ?_
        have : n + 1 + m ≤ j := Nat.le_of_not_lt fun hlt => hI j e' h1 hlt h2 h3
        omega
      · have g : ¬ cWho cs[n + 1 + m] = cWho c := of_decide_eq_false g
        refine hgo3 (by omega) _ _ ?_ ⟨rfl, rfl, fun j e' h1 h2 h3 => ?_⟩
        · have := w64_up' (i := n + 1 + m) (n := cs.length) hjl (by omega)
          show w64 (((n + 1 + m : Nat) : Int) + 1) - ((n + 1 : Nat) : Int) = ((m + 1 : Nat) : Int)
          rw [this]; omega
        · by_cases q : j = n + 1 + m
          · subst q
            rw [hj] at h3; cases h3
            exact g
          · exact hI j e' h1 (by omega) h3
    · have z : ¬ ((n + 1 + m : Nat) : Int) < (calls.len : Int) := of_decide_eq_false z
      refine j2 (100 * (n : Int) + 50 + r17) (by omega) (by omega) fun j e' h1 h2 h3 => absurd h3 (hI j e' h1 ?_ h2)
      have := (List.getElem?_eq_some_iff.1 h2).1
      omega
  have j5 : ∀ wv : Wi, law4_widened.j5 c1 calls go (acc, ((n : Int), ((f, u1), u))) c (wv, ()) k := fun wv => by
    refine ⟨fun g => i1 (mod4_spec (by decide) (by decide) fun r q1 q2 => ?_), fun g => ?_⟩
    · have g : cWho c ≠ 0 := of_decide_eq_true g
      obtain ⟨w, hw⟩ : ∃ w : Nat, w64 (1 + r) = (w : Int) ∧ 1 ≤ w ∧ w < 4 := ⟨(1 + r).toNat, by
        have : w64 (1 + r) = 1 + r := by rw [w64_of] <;> omega
        rw [this]; omega⟩
      show law4_widened.j4 c1 calls go _ (wv, ()) ((w64 (1 + r), _), ()) k
      rw [hw.1]
      exact j4 wv w hw.2.2 (fun z => absurd z g) (fun _ => hw.2.1)
    · have g : ¬ cWho c ≠ 0 := of_decide_eq_false g
      have g : cWho c = 0 := Decidable.byContradiction g
      have := j4 wv 0 (by decide) (fun _ => rfl) (fun z => absurd g z)
      have g' : c.1 = 0 := g
      show law4_widened.j4 c1 calls go _ (wv, ()) (c, ()) k
      have e : c = ((0 : Int), (c.2.1, (c.2.2.1, (c.2.2.2.1, (c.2.2.2.2.1, (c.2.2.2.2.2.1, (c.2.2.2.2.2.2.1, ()))))))) := by rw [← g']
      rw [e]
      exact this
  refine ⟨fun g => ?_, fun g => ?_⟩
  · have g : (n : Int) < (wide.len : Int) := of_decide_eq_true g
    exact ⟨⟨hbn, g⟩, (hw.le nl.le).at hbn g rfl fun wv _ => j5 (wv.1, (wv.2.1, (wv.2.2.1, ())))⟩
  · exact j5 (0, (0, (0, ())))

end Go.Mx
