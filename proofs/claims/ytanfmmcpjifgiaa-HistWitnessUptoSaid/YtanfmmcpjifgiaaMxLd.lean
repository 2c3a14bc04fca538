/-
  hist.Legal: the plain law.
-/
import Derived.Test.YtanfmmcpjifgiaaMxLc
set_option linter.unusedVariables false
set_option linter.unusedSimpArgs false
namespace Go.Mx

theorem does_do2 (xs : List Int) (c : Cl) (most : Int) (hs : Sound c) : (doesL xs c most).2 = (doL xs c most).2 ∧ ((doL xs c most).2 = true → (doesL xs c most).1 = (doL xs c most).1) := by
  obtain ⟨who, kind, arg, bg, en, code, v, u⟩ := c
  change Int at who kind arg bg en code v
  have hs : SoundI who kind bg en code := hs
  unfold SoundI May at hs
  have hk : (code = 0 ∨ code = 2 ∨ code = 3 ∨ code = 4 ∨ code = 5 ∨ code = 6) ∧ (kind = 0 ∨ kind = 1 ∨ kind = 2) ∧ (code = 2 ∨ code = 3 → kind = 0) ∧ (code = 4 ∨ code = 5 ∨ code = 6 → kind ≠ 0) := by omega
  unfold doesL doL
  dsimp only [Den]
  obtain ⟨h1, h2, h3, h4⟩ := hk
  rcases h1 with rfl | rfl | rfl | rfl | rfl | rfl <;> rcases h2 with rfl | rfl | rfl <;> simp at h3 h4 ⊢
  all_goals first
    | done
    | (by_cases q : most ≤ (xs.length : Int) <;> simp [q] <;> omega)
    | (by_cases q : xs = [] <;> simp [q])

def AtOf (os : List Int) (n : Nat) (vs : List Int) : Prop := ∀ (i : Nat) v, vs[i]? = some v → (0 < v → ∃ p : Nat, p < n ∧ os[p]? = some (i : Int) ∧ v = (p : Int) + 1) ∧ (∀ p : Nat, p < n → os[p]? = some (i : Int) → v = (p : Int) + 1) ∧ 0 ≤ v

def FinalI (cs : List Cl) (os : List Int) (n : Nat) : Prop := ∀ (i : Nat) x, i < n → cs[i]? = some x → cCode x ≠ 0 → (∃ p : Nat, os[p]? = some (i : Int)) ∧
  ∀ (j : Nat) y, cs[j]? = some y → cEn x < cBg y → ∀ p q : Nat, os[p]? = some (i : Int) → os[q]? = some (j : Int) → p ≤ q

theorem legal_iff {cs : List Cl} {most : Int} {os : List Int} (hH : HistN cs cs.length) {xs : List Int} (hS : StepsTo cs most os os.length xs) : FinalI cs os cs.length ↔ LegalL cs most os := by
  refine ⟨fun hF => ⟨⟨xs, hS⟩, ?_, ?_⟩, fun hL => ?_⟩
  · intro p q kp kq a b hpq hq hp1 hq1 hpa hqb hah
    have hkq : 0 ≤ kq := by obtain ⟨k, c, e1, e2, _⟩ := hS.at q hq; rw [hq1] at e1; cases e1; exact e2
    have hkp : 0 ≤ kp := by obtain ⟨k, c, e1, e2, _⟩ := hS.at p (by omega); rw [hp1] at e1; cases e1; exact e2
    have hlt := (List.getElem?_eq_some_iff.1 hqb).1
    obtain ⟨t1, t2, t3, t4, t5⟩ := sound_facts (hH kq.toNat b hlt hqb).1
    obtain ⟨h1, h2⟩ := hah
    have hcode : cCode b ≠ 0 := fun e => by have := t1.2 e; omega
    have := (hF kq.toNat b hlt hqb hcode).2 kp.toNat a hpa h2 q p (by rw [Int.toNat_of_nonneg hkq]; exact hq1) (by rw [Int.toNat_of_nonneg hkp]; exact hp1)
    omega
  · intro i c hi hc hen
    obtain ⟨t1, t2, t3, t4, t5⟩ := sound_facts (hH i c hi hc).1
    have hcode : cCode c ≠ 0 := fun e => by have := t1.2 e; omega
    exact (hF i c hi hc hcode).1
  · intro i x hi hx hcode
    obtain ⟨t1, t2, t3, t4, t5⟩ := sound_facts (hH i x hi hx).1
    have hen : cEn x ≠ -1 := fun e => hcode (t1.1 e)
    have hen0 := t2 hen
    refine ⟨hL.2.2 i x hi hx (by omega), fun j y hy hlt p q hp hq => ?_⟩
    apply Classical.byContradiction
    intro hpq
    exact hL.2.1 q p (j : Int) (i : Int) y x (by omega) (List.getElem?_eq_some_iff.1 hp).1 hq hp (by rw [Int.toNat_natCast]; exact hy) (by rw [Int.toNat_natCast]; exact hx) ⟨by omega, hlt⟩

def OkL (cs : List Cl) (most : Int) (os : List Int) : Prop := ¬ 40 < cs.length ∧ (1 ≤ most ∧ most ≤ 4096) ∧ HistN cs cs.length ∧ LegalL cs most os

theorem legal_body {calls order : Sl} {most : Int} {h : Heap} {cs : List Cl} {os : List Int} (ha : Arr h kapiCall calls cs) (ho : Arr h ki order os) (hn : calls.len ≤ 40) (hm : order.len ≤ 2097152) (hH : HistN cs cs.length)
    {c3 : Sl → Cl → Int → Heap → ((Sl × (Bool × Unit)) → Heap → Prop) → Prop} (i3 : ∀ {a b c h Q}, hist_row_does.M a b c h Q → c3 a b c h Q)
    {Q : Bool → Heap → Prop} (hQ : ∀ (b : Bool) h', (b = true ↔ LegalL cs most os) → le h h' → Q b h') : hist_Legal.j10 c3 calls most order Q () h := by
  have hl : calls.len = cs.length := ha.1.symm
  have hlo : order.len = os.length := ho.1.symm
  refine make_new (by omega) (by omega) (by omega) (by omega) fun s5 h1 hN es _ _ => ?_
  rw [Int.toNat_natCast] at hN es
  have hs5 : s5.len = cs.length := by omega
  refine Loop.up order.len (fun s => s.2.1) (fun n s k => ∃ xs vs, StepsTo cs most os n xs ∧ Arr k ki s.1 xs ∧ New h k ki s5 vs ∧ vs.length = cs.length ∧ AtOf os n vs ∧ (xs ≠ [] → ∀ b, blkOf s.1 b → ¬ blkOf s5 b) ∧ xs.length ≤ n) rfl
    ⟨[], _, rfl, (New.nil h1 ki).arr, hN, by simp [hl], fun i v hv => ?_, fun q => absurd rfl q, Nat.le_refl _⟩ ?_
  · have : v = 0 := by
      rw [List.getElem?_replicate] at hv
      split at hv
      · exact (Option.some.inj hv).symm
      · cases hv
    subst this
    exact ⟨fun q => absurd q (by decide), fun p hp => absurd hp (Nat.not_lt_zero _), Int.le_refl _⟩
  rintro n ⟨row, j, u⟩ k go hi hc ⟨xs, vs, hS, hA, hB, hbl, hAt, hap, hxl⟩ hgo
  dsimp only at hc hA hap; subst hc
  have bad : (∀ ys, ¬ (StepsTo cs most os (n + 1) ys)) → n < os.length → ¬ LegalL cs most os := fun hb hlt q => by
    obtain ⟨⟨zs, hz⟩, _⟩ := q
    obtain ⟨ys, hy⟩ := hz.down (n := n + 1) (by omega)
    exact hb ys hy
  have hle := hB.le
  refine ⟨fun c => ?_, fun c => ?_⟩
  · have c : (n : Int) < (order.len : Int) := of_decide_eq_true c
    have c' : n < order.len := by omega
    have hlt : n < os.length := by omega
    refine ⟨⟨Int.natCast_nonneg n, c⟩, (ho.le hle).at (Int.natCast_nonneg n) c rfl ?_⟩
    intro t ht
    rw [Int.toNat_natCast] at ht
    change Int at t
    have no : ¬ LegalL cs most os → Q false k := fun hb => hQ false k ⟨fun q => (by cases q), fun q => absurd q hb⟩ hle
    refine ⟨fun e => ?_, fun e => ?_⟩
    · have e : t < 0 := of_decide_eq_true e
      refine ⟨fun _ => no (bad (fun ys hy => ?_) hlt), fun q => (by cases q)⟩
      obtain ⟨_, k', _, _, b2, b3, _⟩ := hy
      rw [ht] at b2; cases b2
      omega
    have e : ¬ t < 0 := of_decide_eq_false e
    refine ⟨fun f => ?_, fun f => ?_⟩
    · have f : (calls.len : Int) ≤ t := of_decide_eq_true f
      refine ⟨fun _ => no (bad (fun ys hy => ?_) hlt), fun q => (by cases q)⟩
      obtain ⟨_, k', _, _, b2, b3, b4, _⟩ := hy
      rw [ht] at b2; cases b2
      have := (List.getElem?_eq_some_iff.1 b4).1
      omega
    have f : ¬ (calls.len : Int) ≤ t := of_decide_eq_false f
    obtain ⟨m, rfl⟩ : ∃ m : Nat, t = (m : Int) := ⟨t.toNat, by omega⟩
    have hml : m < cs.length := by omega
    obtain ⟨x, hx⟩ : ∃ x, cs[m]? = some x := ⟨cs[m], by simp [hml]⟩
    have b5 : (0 : Int) ≤ (m : Int) ∧ (m : Int) < (s5.len : Int) := ⟨by omega, by omega⟩
    have hm0 : ((m : Int)).toNat = m := Int.toNat_natCast m
    have bm : (0 : Int) ≤ (m : Int) ∧ (m : Int) < (calls.len : Int) := ⟨by omega, by omega⟩
    refine ⟨b5, hB.arr.at b5.1 b5.2 rfl fun y hy => ?_⟩
    rw [Int.toNat_natCast] at hy
    obtain ⟨a1, a2, a3⟩ := hAt m y hy
    refine ⟨fun g => ?_, fun g => ?_⟩
    · have g : (0 : Int) < y := of_decide_eq_true g
      obtain ⟨p, hp1, hp2, _⟩ := a1 g
      refine no (bad (fun ys hy2 => ?_) hlt)
      obtain ⟨_, k', _, _, b2, _, _, b5, _⟩ := hy2
      rw [ht] at b2; cases b2
      exact b5 p hp1 hp2
    have g : ¬ (0 : Int) < y := of_decide_eq_false g
    have hfresh : ∀ j, j < n → os[j]? ≠ some (m : Int) := fun j hj hje => by
      have := a2 j hj hje
      omega
    have hwn : w64 ((n : Int) + 1) = ((n + 1 : Nat) : Int) := by rw [w64_of] <;> omega
    refine ⟨b5, hB.own.set (i := (m : Int)) b5.1 b5.2 rfl rfl fun k2 q1 q2 => ?_⟩
    rw [hm0] at q1
    have hle2 : le h k2 := le_ext hle q2 hB.new
    have hA2 : Arr k2 ki row xs := hA.ext' q2 hap
    have hB2 : New h k2 ki s5 (vs.set m (w64 ((n : Int) + 1))) := ⟨q1, by rw [List.length_set]; exact hB.len, hle2, hB.new⟩
    rw [hwn] at hB2
    refine ⟨bm, (ha.le hle2).at bm.1 bm.2 rfl fun x' hx' => ?_⟩
    rw [hm0, hx] at hx'; cases hx'
    have hrl : row.len ≤ 2097152 := by rw [← hA.1]; omega
    obtain ⟨d1, d2⟩ := does_do2 xs x most (hH m x hml hx).1
    refine i3 (does_spec hA2 hrl fun l b s k3 e1 hA3 hle3 hb3 => ?_)
    have hB3 := hB2.more hle3
    rw [e1] at d1 d2
    dsimp only at d1 d2
    refine ⟨fun e => ?_, fun e => ?_⟩
    · refine hQ false k3 ⟨fun q => (by cases q), fun q => absurd q (bad (fun ys hy2 => ?_) hlt)⟩ (hle2.trans hle3)
      obtain ⟨ys', k', c', b1, b2, _, b4, _, b6⟩ := hy2
      rw [ht] at b2; cases b2
      rw [hm0, hx] at b4; cases b4
      rw [b1.det hS] at b6
      rw [b6] at d1
      rw [d1] at e; cases e
    · have hb : b = true := by cases b <;> first | rfl | cases e
      subst hb
      have hdo : doL xs x most = (l, true) := Prod.ext (d2 d1.symm).symm d1.symm
      have hll : l.length ≤ n + 1 := by
        have := doL_len1 xs x most
        rw [hdo] at this
        exact Nat.le_trans this (by omega)
      refine hgo c' _ _ hwn ⟨l, _, ⟨xs, m, x, hS, ht, by omega, by rw [hm0]; exact hx, hfresh, hdo⟩, hA3, hB3, by rw [List.length_set]; exact hbl, ?_, fun _ b hb1 hb2 => hB2.own.blk hb2 (hb3 b hb1), hll⟩
      intro i v hv
      rw [List.getElem?_set] at hv
      by_cases ei : m = i
      · subst ei
        rw [if_pos rfl, if_pos (by omega)] at hv
        cases hv
        refine ⟨fun _ => ⟨n, Nat.lt_succ_self _, ht, rfl⟩, fun p hp hpm => ?_, Int.natCast_nonneg _⟩
        by_cases ep : p = n
        · subst ep; rfl
        · exact absurd hpm (hfresh p (by omega))
      · rw [if_neg ei] at hv
        obtain ⟨g1, g2, g3⟩ := hAt i v hv
        refine ⟨fun q => ?_, fun p hp hpm => ?_, g3⟩
        · obtain ⟨p, p1, p2, p3⟩ := g1 q
          exact ⟨p, by omega, p2, p3⟩
        · by_cases ep : p = n
          · subst ep
            rw [ht] at hpm
            exact absurd (Int.ofNat_inj.1 (Option.some.inj hpm)) ei
          · exact g2 p (by omega) hpm
  · have c : ¬ (n : Int) < (order.len : Int) := of_decide_eq_false c
    have en : n = os.length := by omega
    subst en
    have hiff := legal_iff hH hS
    refine Loop.up calls.len (fun s => s.1) (fun i s k' => k' = k ∧ FinalI cs os i) rfl ⟨rfl, fun i c hi => absurd hi (Nat.not_lt_zero _)⟩ ?_
    rintro i ⟨jj, u2⟩ k' go2 hi2 hcj ⟨rfl, hF⟩ hgo2
    dsimp only at hcj; subst hcj
    refine ⟨fun d => ?_, fun d => ?_⟩
    · have d : (i : Int) < (calls.len : Int) := of_decide_eq_true d
      have d' : i < calls.len := by omega
      have hil : i < cs.length := by omega
      obtain ⟨x, hx⟩ : ∃ x, cs[i]? = some x := ⟨cs[i], by simp [hil]⟩
      have bi : (0 : Int) ≤ (i : Int) ∧ (i : Int) < (calls.len : Int) := ⟨by omega, by omega⟩
      have bi5 : (0 : Int) ≤ (i : Int) ∧ (i : Int) < (s5.len : Int) := ⟨by omega, by omega⟩
      have hA1 := ha.le hle
      refine ⟨bi, hA1.at bi.1 bi.2 rfl fun x' hx' => ?_⟩
      rw [Int.toNat_natCast, hx] at hx'; cases hx'
      have next : (cCode x ≠ 0 → (∃ p : Nat, os[p]? = some (i : Int)) ∧ ∀ (j : Nat) y, cs[j]? = some y → cEn x < cBg y → ∀ p q : Nat, os[p]? = some (i : Int) → os[q]? = some (j : Int) → p ≤ q) → go2 (w64 ((i : Int) + 1), ()) k' := fun g =>
        hgo2 d' _ _ (by show w64 ((i : Int) + 1) = _; rw [w64_of] <;> omega) ⟨rfl, fun i' x' hi' hx' hc' => by
          by_cases ei : i' = i
          · subst ei; rw [hx] at hx'; cases hx'; exact g hc'
          · exact hF i' x' (by omega) hx' hc'⟩
      have no : ¬ FinalI cs os cs.length → Q false k' := fun hb => hQ false k' ⟨fun q => (by cases q), fun q => absurd (hiff.2 q) hb⟩ hle
      refine ⟨fun e => ?_, fun e => ?_⟩
      · have e : cCode x = 0 := of_decide_eq_true e
        exact next fun q => absurd e q
      have e : ¬ cCode x = 0 := of_decide_eq_false e
      have hvl := hB.len
      obtain ⟨v, hv⟩ : ∃ v : Int, vs[i]? = some v := ⟨vs[i]'(by omega), by simp⟩
      obtain ⟨v1, v2, v3⟩ := hAt i v hv
      refine ⟨bi5, hB.arr.at bi5.1 bi5.2 rfl fun v' hv' => ?_⟩
      rw [Int.toNat_natCast, hv] at hv'; cases hv'
      refine ⟨fun f => ?_, fun f => ?_⟩
      · have f : v = 0 := of_decide_eq_true f
        refine no fun q => ?_
        obtain ⟨⟨p, hp⟩, _⟩ := q i x hil hx e
        have := v2 p (List.getElem?_eq_some_iff.1 hp).1 hp
        omega
      have f : ¬ v = 0 := of_decide_eq_false f
      obtain ⟨p0, p1, p2, p3⟩ := v1 (by omega)
      refine Loop.up calls.len (fun s => s.1) (fun j s k'' => k'' = k' ∧ ∀ (j' : Nat) y, j' < j → cs[j']? = some y → cEn x < cBg y → ∀ p q : Nat, os[p]? = some (i : Int) → os[q]? = some (j' : Int) → p ≤ q) rfl ⟨rfl, fun j' y hj => absurd hj (Nat.not_lt_zero _)⟩ ?_
      rintro j ⟨jj, u3⟩ k'' go3 hj3 hcj3 ⟨rfl, hP⟩ hgo3
      dsimp only at hcj3; subst hcj3
      refine ⟨fun g => ?_, fun g => ?_⟩
      · have g : (j : Int) < (calls.len : Int) := of_decide_eq_true g
        have g' : j < calls.len := by omega
        have hjl : j < cs.length := by omega
        obtain ⟨y, hy⟩ : ∃ y, cs[j]? = some y := ⟨cs[j], by simp [hjl]⟩
        have bj : (0 : Int) ≤ (j : Int) ∧ (j : Int) < (calls.len : Int) := ⟨by omega, by omega⟩
        have bj5 : (0 : Int) ≤ (j : Int) ∧ (j : Int) < (s5.len : Int) := ⟨by omega, by omega⟩
        obtain ⟨w, hw⟩ : ∃ w : Int, vs[j]? = some w := ⟨vs[j]'(by omega), by simp⟩
        obtain ⟨w1, w2, w3⟩ := hAt j w hw
        refine ⟨bj, hA1.at bj.1 bj.2 rfl fun y' hy' => ?_⟩
        rw [Int.toNat_natCast, hy] at hy'; cases hy'
        refine ⟨bj5, hB.arr.at bj5.1 bj5.2 rfl fun w' hw' => ?_⟩
        rw [Int.toNat_natCast, hw] at hw'; cases hw'
        have j6 : ∀ b : Bool, (b = true → ¬ FinalI cs os cs.length) → (b = false → cEn x < cBg y → ∀ p q : Nat, os[p]? = some (i : Int) → os[q]? = some (j : Int) → p ≤ q) → hist_Legal.j6 Q go3 ((j : Int), u3) (b, ()) k'' := fun b r1 r2 =>
          ⟨fun r => no (r1 r), fun r => hgo3 g' _ _ (by show w64 ((j : Int) + 1) = _; rw [w64_of] <;> omega) ⟨rfl, fun j' y' hj' hy' hlt' => by
            by_cases ej : j' = j
            · subst ej; rw [hy] at hy'; cases hy'; exact r2 r hlt'
            · exact hP j' y' (by omega) hy' hlt'⟩⟩
        refine ⟨fun r => ?_, fun r => ?_⟩
        · have r : (0 : Int) < w := of_decide_eq_true r
          obtain ⟨q0, t1, t2, t3⟩ := w1 r
          refine ⟨fun z => ?_, fun z => ?_⟩
          · have z : cEn x < cBg y := of_decide_eq_true z
            refine ⟨bi5, ?_⟩
            obtain ⟨sa, sn, sm⟩ := s5
            have q1 := hB.arr.2.2
            cases sa with
            | none => exfalso; dsimp only at q1 bi5; omega
            | some sa =>
            refine ⟨bj5, ⟨v, ?_, w, ?_, j6 _ (fun q r => ?_) (fun q _ p q' hp hq' => ?_)⟩⟩
            · exact cellsAt_el (k := ki) q1 hv
            · exact cellsAt_el (k := ki) q1 hw
            · have q : w < v := of_decide_eq_true q
              have := (r i x hil hx e).2 j y hy z p0 q0 p2 t2
              omega
            · have q : ¬ w < v := of_decide_eq_false q
              have e1 := v2 p (List.getElem?_eq_some_iff.1 hp).1 hp
              have e2 := w2 q' (List.getElem?_eq_some_iff.1 hq').1 hq'
              omega
          · have z : ¬ cEn x < cBg y := of_decide_eq_false z
            exact j6 false (fun q => by cases q) (fun _ q => absurd q z)
        · have r : ¬ (0 : Int) < w := of_decide_eq_false r
          refine j6 false (fun q => by cases q) (fun _ _ p q' hp hq' => ?_)
          have e2 := w2 q' (List.getElem?_eq_some_iff.1 hq').1 hq'
          omega
      · have g : ¬ (j : Int) < (calls.len : Int) := of_decide_eq_false g
        have ej : j = cs.length := by omega
        subst ej
        exact next fun _ => ⟨⟨p0, p2⟩, fun j y hy hlt p q hp hq => hP j y (List.getElem?_eq_some_iff.1 hy).1 hy hlt p q hp hq⟩
    · have d : ¬ (i : Int) < (calls.len : Int) := of_decide_eq_false d
      have ei : i = cs.length := by omega
      subst ei
      exact hQ true k' ⟨fun _ => hiff.1 hF, fun _ => rfl⟩ hle

theorem hlegal_spec {calls order : Sl} {most : Int} {h : Heap} {cs : List Cl} {os : List Int} (ha : Arr h kapiCall calls cs) (ho : Arr h ki order os) (hn : calls.len ≤ 2097152) (hm : order.len ≤ 2097152)
    {c1 : Int → Heap → (Bool → Heap → Prop) → Prop} {c2 : Sl → Heap → (Bool → Heap → Prop) → Prop} {c3 : Sl → Cl → Int → Heap → ((Sl × (Bool × Unit)) → Heap → Prop) → Prop}
    (i1 : ∀ {a h Q}, hist_goodMost.M a h Q → c1 a h Q) (i2 : ∀ {l : Sl} {h Q} {us : List Cl}, Arr h kapiCall l us → l.len ≤ 2097152 → (∀ b : Bool, (b = true ↔ HistN us us.length) → Q b h) → c2 l h Q) (i3 : ∀ {a b c h Q}, hist_row_does.M a b c h Q → c3 a b c h Q)
    {Q : Bool → Heap → Prop} (hQ : ∀ (b : Bool) h', (b = true ↔ OkL cs most os) → le h h' → Q b h') : hist_Legal.M c1 c2 c3 calls most order h Q := by
  have hl : calls.len = cs.length := ha.1.symm
  have no : ¬ OkL cs most os → Q false h := fun hb => hQ false h ⟨fun q => (by cases q), fun q => absurd q hb⟩ (le.refl h)
  refine ⟨fun e => ?_, fun e => ?_⟩
  · have e : (40 : Int) < (calls.len : Int) := of_decide_eq_true e
    exact ⟨fun _ => no fun q => q.1 (by omega), fun q => (by cases q)⟩
  have e : ¬ (40 : Int) < (calls.len : Int) := of_decide_eq_false e
  refine i1 (good_spec ⟨fun g => ?_, fun g => ?_⟩)
  · have g : ¬ (1 ≤ most ∧ most ≤ 4096) := fun q => by rw [decide_eq_true q] at g; cases g
    exact ⟨fun _ => no fun q => g q.2.1, fun q => (by cases q)⟩
  have g : 1 ≤ most ∧ most ≤ 4096 := Decidable.byContradiction fun q => by rw [decide_eq_false q] at g; cases g
  refine i2 ha hn fun b hb => ⟨fun r => no fun q => ?_, fun r => ?_⟩
  · have := hb.2 q.2.2.1
    rw [this] at r; cases r
  · have hH : HistN cs cs.length := hb.1 (by cases b <;> first | rfl | cases r)
    exact legal_body ha ho (by omega) hm hH i3 fun b' h' hb' hle => hQ b' h' (hb'.trans ⟨fun q => ⟨by omega, g, hH, q⟩, fun q => q.2.2.2⟩) hle

theorem rlegal_spec {calls order : Sl} {most : Int} {h : Heap} {cs : List Cl} {os : List Int} (ha : Arr h kapiCall calls cs) (ho : Arr h ki order os) (hn : calls.len ≤ 2097152) (hm : order.len ≤ 2097152)
    {c1 : Sl → Int → Heap → (Int → Heap → Prop) → Prop} {c2 : Sl → Int → Sl → Heap → ((Sl × (Bool × Unit)) → Heap → Prop) → Prop} {c4 : Sl → Heap → (Bool → Heap → Prop) → Prop}
    (i4 : ∀ {l : Sl} {h Q} {us : List Cl}, Arr h kapiCall l us → l.len ≤ 2097152 → (∀ b : Bool, (b = true ↔ HistN us us.length) → Q b h) → c4 l h Q)
    (i1 : ∀ {a b h Q}, ref4_Bad.M c4 a b h Q → c1 a b h Q)
    (i2 : ∀ {a b c h} {us : List Cl} {vs : List Int} {Q : (Sl × (Bool × Unit)) → Heap → Prop}, Arr h kapiCall a us → Arr h ki c vs → a.len ≤ 40 → c.len ≤ 2097152 → (∀ r (b' : Bool) h', (b' = true ↔ LegalL us b vs) → le h h' → Q (r, b', ()) h') → c2 a b c h Q)
    {Q : Bool → Heap → Prop} (hQ : ∀ (b : Bool) h', (b = true ↔ OkL cs most os) → le h h' → Q b h') : ref4_Legal.M c1 c2 calls most order h Q := by
  have hl : calls.len = cs.length := ha.1.symm
  have no : ¬ OkL cs most os → Q false h := fun hb => hQ false h ⟨fun q => (by cases q), fun q => absurd q hb⟩ (le.refl h)
  refine i1 ⟨fun e => ?_, fun e => ?_⟩
  · have e : (40 : Int) < (calls.len : Int) := of_decide_eq_true e
    exact ⟨fun _ => no fun q => q.1 (by omega), fun q => absurd (of_decide_eq_false q) (fun q => q (by decide))⟩
  have e : ¬ (40 : Int) < (calls.len : Int) := of_decide_eq_false e
  have j2 : ∀ b : Bool, (b = true ↔ ¬ (1 ≤ most ∧ most ≤ 4096)) → ref4_Bad.j2 c4 calls (fun r5 h6 => ((decide (r5 ≠ 0)) = true → Q false h6) ∧ ((decide (r5 ≠ 0)) = false → c2 calls most order h6 fun r7 h8 => Q r7.2.1 h8)) (b, ()) h := by
    intro b hb
    refine ⟨fun f => ⟨fun _ => no fun q => (hb.1 f) q.2.1, fun q => absurd (of_decide_eq_false q) (fun q => q (by decide))⟩, fun f => ?_⟩
    have g : 1 ≤ most ∧ most ≤ 4096 := Decidable.byContradiction fun q => by
      have := hb.2 q
      have f : b = false := f
      rw [f] at this; cases this
    refine i4 ha hn fun b' hb' => ⟨fun r => ⟨fun _ => no fun q => ?_, fun q => absurd (of_decide_eq_false q) (fun q => q (by decide))⟩, fun r => ⟨fun q => absurd rfl (of_decide_eq_true q), fun _ => ?_⟩⟩
    · have := hb'.2 q.2.2.1
      rw [this] at r; cases r
    · have hH : HistN cs cs.length := hb'.1 (by cases b' <;> first | rfl | cases r)
      exact i2 ha ho (by omega) hm fun _ b'' h' hb'' hle => hQ b'' h' (hb''.trans ⟨fun q => ⟨by omega, g, hH, q⟩, fun q => q.2.2.2⟩) hle
  refine ⟨fun f => ?_, fun f => ?_⟩
  · have f : most < 1 := of_decide_eq_true f
    exact j2 true ⟨fun _ q => by omega, fun _ => rfl⟩
  · have f : ¬ most < 1 := of_decide_eq_false f
    refine j2 _ ⟨fun q => ?_, fun q => ?_⟩
    · have q : (4096 : Int) < most := of_decide_eq_true q
      omega
    · exact decide_eq_true (by omega)

end Go.Mx
