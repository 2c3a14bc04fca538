/-
  Orders: the plain law, and the reference's replay.
-/
import Derived.Test.YtanfmmcpjifgiaaMxLb
set_option linter.unusedVariables false
set_option linter.unusedSimpArgs false
namespace Go.Mx

def Ahead (x y : Cl) : Prop := 0 ≤ cEn x ∧ cEn x < cBg y
/-- Behind n steps of the order the deque holds xs. -/
def StepsTo (cs : List Cl) (most : Int) (os : List Int) : Nat → List Int → Prop
  | 0, xs => xs = []
  | n + 1, xs => ∃ ys k c, StepsTo cs most os n ys ∧ os[n]? = some k ∧ 0 ≤ k ∧ cs[k.toNat]? = some c ∧ (∀ j, j < n → os[j]? ≠ some k) ∧ doL ys c most = (xs, true)
theorem StepsTo.det {cs : List Cl} {most : Int} {os : List Int} : ∀ {n : Nat} {xs ys : List Int}, StepsTo cs most os n xs → StepsTo cs most os n ys → xs = ys
  | 0, _, _, a, b => a.trans b.symm
  | n + 1, xs, ys, ⟨x, k, c, a1, a2, a3, a4, a5, a6⟩, ⟨y, k', c', b1, b2, b3, b4, b5, b6⟩ => by
    obtain rfl := StepsTo.det a1 b1
    rw [a2] at b2; cases b2
    rw [a4] at b4; cases b4
    rw [a6] at b6
    exact congrArg Prod.fst b6
theorem StepsTo.down {cs : List Cl} {most : Int} {os : List Int} : ∀ {m n : Nat} {xs : List Int}, StepsTo cs most os m xs → n ≤ m → ∃ ys, StepsTo cs most os n ys
  | 0, n, xs, h, hn => ⟨xs, by rw [show n = 0 from by omega]; exact h⟩
  | m + 1, n, xs, h, hn => by
    by_cases e : n = m + 1
    · subst e; exact ⟨xs, h⟩
    · obtain ⟨ys, k, c, a1, _⟩ := h
      exact a1.down (by omega)
theorem StepsTo.at {cs : List Cl} {most : Int} {os : List Int} : ∀ {n : Nat} {xs : List Int}, StepsTo cs most os n xs → ∀ j, j < n → ∃ k c, os[j]? = some k ∧ 0 ≤ k ∧ cs[k.toNat]? = some c
  | n + 1, xs, ⟨ys, k, c, a1, a2, a3, a4, _⟩, j, hj => by
    by_cases e : j = n
    · subst e; exact ⟨k, c, a2, a3, a4⟩
    · exact a1.at j (by omega)
/-- No call stands behind one that it must be ahead of. -/
def PairsL (cs : List Cl) (os : List Int) (n : Nat) : Prop := ∀ (p q : Nat) kp kq a b, p < q → q < n → os[p]? = some kp → os[q]? = some kq → cs[kp.toNat]? = some a → cs[kq.toNat]? = some b → ¬ Ahead b a
def Ended (cs : List Cl) (os : List Int) (n : Nat) : Prop := ∀ (i : Nat) c, i < n → cs[i]? = some c → 0 ≤ cEn c → ∃ p : Nat, os[p]? = some (i : Int)
def LegalL (cs : List Cl) (most : Int) (os : List Int) : Prop := (∃ xs, StepsTo cs most os os.length xs) ∧ PairsL cs os os.length ∧ Ended cs os cs.length

def SeenOf (os : List Int) (n : Nat) (bs : List Bool) : Prop := ∀ (i : Nat) b, bs[i]? = some b → (b = true ↔ ∃ p, p < n ∧ os[p]? = some (i : Int))

theorem ahead_spec {x y : Cl} {h : Heap} {Q : Bool → Heap → Prop} (hQ : ∀ b : Bool, (b = true ↔ Ahead x y) → Q b h) : ref4_ahead.M x y h Q := by
  refine ⟨fun e => ?_, fun e => ?_⟩
  · have e : 0 ≤ cEn x := of_decide_eq_true e
    exact hQ _ ⟨fun q => ⟨e, of_decide_eq_true q⟩, fun q => decide_eq_true q.2⟩
  · have e : ¬ 0 ≤ cEn x := of_decide_eq_false e
    exact hQ _ ⟨fun q => (by cases q), fun q => absurd q.1 e⟩

theorem doL_len1 (xs : List Int) (c : Cl) (most : Int) : (doL xs c most).1.length ≤ xs.length + 1 := by
  unfold doL
  repeat' split
  all_goals simp
  all_goals omega

theorem replay_spec {calls order : Sl} {most : Int} {h : Heap} {cs : List Cl} {os : List Int} (ha : Arr h kapiCall calls cs) (ho : Arr h ki order os) (hn : calls.len ≤ 40) (hm : order.len ≤ 2097152)
    {c1 : Cl → Cl → Heap → (Bool → Heap → Prop) → Prop} {c2 : Sl → Cl → Int → Heap → ((Sl × (Bool × Unit)) → Heap → Prop) → Prop} (i1 : ∀ {a b h Q}, ref4_ahead.M a b h Q → c1 a b h Q) (i2 : ∀ {a b c h Q}, ref4_Do.M a b c h Q → c2 a b c h Q)
    {Q : (Sl × (Bool × Unit)) → Heap → Prop} (hQ : ∀ r (b : Bool) h', (b = true ↔ LegalL cs most os) → le h h' → Q (r, b, ()) h') : ref4_Replay.M c1 c2 calls most order h Q := by
  have hl : calls.len = cs.length := ha.1.symm
  have hlo : order.len = os.length := ho.1.symm
  refine make_new (by omega) (by omega) (by omega) (by omega) fun s5 h1 hN es _ _ => ?_
  rw [Int.toNat_natCast] at hN es
  refine Loop.up order.len (fun s => s.2.1) (fun n s k => ∃ xs bs, StepsTo cs most os n xs ∧ PairsL cs os n ∧ Arr k ki s.1 xs ∧ New h k .bool s5 bs ∧ bs.length = cs.length ∧ SeenOf os n bs ∧ (xs ≠ [] → ∀ b, blkOf s.1 b → ¬ blkOf s5 b) ∧ xs.length ≤ n) rfl
    ⟨[], _, rfl, fun p q kp kq a b hpq hq => absurd hq (Nat.not_lt_zero _), (New.nil h1 ki).arr, hN, by simp [hl], fun i b hb => ?_, fun q => absurd rfl q, Nat.le_refl _⟩ ?_
  · have : b = false := by
      rw [List.getElem?_replicate] at hb
      split at hb
      · exact (Option.some.inj hb).symm
      · cases hb
    subst this
    exact ⟨fun q => (by cases q), fun ⟨p, hp, _⟩ => absurd hp (Nat.not_lt_zero _)⟩
  rintro n ⟨row, j, u⟩ k go hi hc ⟨xs, bs, hS, hP, hA, hB, hbl, hSeen, hap, hxl⟩ hgo
  dsimp only at hc hA hap; subst hc
  have bad : (∀ x ys, ¬ (StepsTo cs most os (n + 1) ys)) → n < os.length → ¬ LegalL cs most os := fun hb hlt q => by
    obtain ⟨⟨zs, hz⟩, _⟩ := q
    obtain ⟨ys, hy⟩ := hz.down (n := n + 1) (by omega)
    exact hb xs ys hy
  have hle := hB.le
  refine ⟨fun c => ?_, fun c => ?_⟩
  · have c : (n : Int) < (order.len : Int) := of_decide_eq_true c
    have c' : n < order.len := by omega
    have hlt : n < os.length := by omega
    refine ⟨⟨Int.natCast_nonneg n, c⟩, (ho.le hle).at (Int.natCast_nonneg n) c rfl ?_⟩
    intro t ht
    rw [Int.toNat_natCast] at ht
    change Int at t
    have no : ∀ r, ¬ LegalL cs most os → Q (r, false, ()) k := fun r hb => hQ r false k ⟨fun q => (by cases q), fun q => absurd q hb⟩ hle
    -- a number that is none, or stands there twice
    refine ⟨fun e => ?_, fun e => ?_⟩
    · have e : t < 0 := of_decide_eq_true e
      refine ⟨fun _ => no _ (bad (fun _ ys hy => ?_) hlt), fun q => (by cases q)⟩
      obtain ⟨_, k', _, _, b2, b3, _⟩ := hy
      rw [ht] at b2; cases b2
      omega
    have e : ¬ t < 0 := of_decide_eq_false e
    refine ⟨fun f => ?_, fun f => ?_⟩
    · have f : (calls.len : Int) ≤ t := of_decide_eq_true f
      refine ⟨fun _ => no _ (bad (fun _ ys hy => ?_) hlt), fun q => (by cases q)⟩
      obtain ⟨_, k', _, _, b2, b3, b4, _⟩ := hy
      rw [ht] at b2; cases b2
      have := (List.getElem?_eq_some_iff.1 b4).1
      omega
    have f : ¬ (calls.len : Int) ≤ t := of_decide_eq_false f
    obtain ⟨m, rfl⟩ : ∃ m : Nat, t = (m : Int) := ⟨t.toNat, by omega⟩
    have hml : m < cs.length := by omega
    obtain ⟨x, hx⟩ : ∃ x, cs[m]? = some x := ⟨cs[m], by simp [hml]⟩
    have hs5 : s5.len = cs.length := by omega
    have hbl5 := hB.len
    have b5 : (0 : Int) ≤ (m : Int) ∧ (m : Int) < (s5.len : Int) := ⟨by omega, by omega⟩
    refine ⟨b5, hB.arr.at b5.1 b5.2 rfl fun y hy => ?_⟩
    rw [Int.toNat_natCast] at hy
    have hseen := hSeen m y hy
    refine ⟨fun g => no _ (bad (fun _ ys hy2 => ?_) hlt), fun g => ?_⟩
    · obtain ⟨p, hp1, hp2⟩ := hseen.1 g
      obtain ⟨_, k', _, _, b2, _, _, b5, _⟩ := hy2
      rw [ht] at b2; cases b2
      exact b5 p hp1 hp2
    have hfresh : ∀ j, j < n → os[j]? ≠ some (m : Int) := fun j hj hje => by
      have := hseen.2 ⟨j, hj, hje⟩
      have g : y = false := g
      rw [g] at this; cases this
    have hm0 : ((m : Int)).toNat = m := Int.toNat_natCast m
    have bm : (0 : Int) ≤ (m : Int) ∧ (m : Int) < (calls.len : Int) := ⟨by omega, by omega⟩
    refine Loop.up n (fun s => s.1) (fun j s k' => k' = k ∧ ∀ (p : Nat) kp a, p < j → os[p]? = some kp → cs[kp.toNat]? = some a → ¬ Ahead x a) rfl ⟨rfl, fun p kp a hp => absurd hp (Nat.not_lt_zero _)⟩ ?_
    rintro j ⟨jj, u2⟩ k' go2 hj hcj ⟨rfl, hPj⟩ hgo2
    dsimp only at hcj; subst hcj
    refine ⟨fun d => ?_, fun d => ?_⟩
    · have d : (j : Int) < (n : Int) := of_decide_eq_true d
      have d' : j < n := by omega
      obtain ⟨kj, z, z1, z2, z3⟩ := hS.at j d'
      refine ⟨bm, ?_⟩
      have A1 := ha.le hle
      have A2 := ho.le hle
      have q1 := A1.2.2
      have q2 := A2.2.2
      revert q1 q2
      cases ea : calls.a with
      | none => intro q1 q2; exfalso; dsimp only at q1; omega
      | some a1 =>
      cases eo : order.a with
      | none => intro q1 q2; exfalso; dsimp only at q2; omega
      | some a2 =>
      intro q1 q2
      have hkz := (List.getElem?_eq_some_iff.1 z3).1
      have bkj : (0 : Int) ≤ kj ∧ kj < (calls.len : Int) := ⟨z2, by omega⟩
      have bj : (0 : Int) ≤ (j : Int) ∧ (j : Int) < (order.len : Int) := ⟨by omega, by omega⟩
      refine ⟨bj, ⟨x, ?_, kj, ?_, bkj, ⟨z, ?_, i1 (ahead_spec fun b hb => ⟨fun e => ?_, fun e => ?_⟩)⟩⟩⟩
      · rw [hm0]; exact cellsAt_el q1 hx
      · exact cellsAt_el (k := ki) q2 z1
      · exact cellsAt_el q1 z3
      · exact no _ fun q => q.2.1 j n kj (m : Int) z x d' hlt z1 ht z3 (by rw [hm0]; exact hx) (hb.1 e)
      · refine hgo2 d' _ _ (by show w64 ((j : Int) + 1) = _; rw [w64_of] <;> omega) ⟨rfl, fun p kp a hp hpk hpa => ?_⟩
        by_cases ep : p = j
        · subst ep
          rw [z1] at hpk; cases hpk
          rw [z3] at hpa; cases hpa
          intro q
          rw [hb.2 q] at e; cases e
        · exact hPj p kp a (by omega) hpk hpa
    have d : ¬ (j : Int) < (n : Int) := of_decide_eq_false d
    have ejn : j = n := by omega
    subst ejn
    refine ⟨b5, hB.own.set (i := (m : Int)) b5.1 b5.2 rfl rfl fun k2 q1 q2 => ?_⟩
    rw [hm0] at q1
    have hle2 : le h k2 := le_ext hle q2 hB.new
    have hA2 : Arr k2 ki row xs := hA.ext' q2 hap
    have hB2 : New h k2 .bool s5 (bs.set m true) := ⟨q1, by rw [List.length_set]; exact hB.len, hle2, hB.new⟩
    refine ⟨bm, (ha.le hle2).at bm.1 bm.2 rfl fun x' hx' => ?_⟩
    rw [hm0, hx] at hx'; cases hx'
    have hrl : row.len ≤ 2097152 := by rw [← hA.1]; omega
    refine i2 (do_spec hA2 hrl fun l b s k3 e1 hA3 hle3 hb3 => ?_)
    have hB3 := hB2.more hle3
    refine ⟨fun e => ?_, fun e => ?_⟩
    · refine hQ _ false k3 ⟨fun q => (by cases q), fun q => absurd q (bad (fun _ ys hy2 => ?_) hlt)⟩ (hle2.trans hle3)
      obtain ⟨ys', k', c', b1, b2, _, b4, _, b6⟩ := hy2
      rw [ht] at b2; cases b2
      rw [hm0, hx] at b4; cases b4
      rw [b1.det hS, e1] at b6
      have : b = true := congrArg Prod.snd b6
      rw [this] at e; cases e
    · have hb : b = true := by cases b <;> first | rfl | cases e
      subst hb
      have hll : l.length ≤ j + 1 := by
        have := doL_len1 xs x most
        rw [e1] at this
        exact Nat.le_trans this (by omega)
      refine hgo c' _ _ (by show w64 ((j : Int) + 1) = _; rw [w64_of] <;> omega) ⟨l, _, ⟨xs, m, x, hS, ht, by omega, by rw [hm0]; exact hx, hfresh, e1⟩, ?_, hA3, hB3, by rw [List.length_set]; exact hbl, ?_, ?_, hll⟩
      · intro p q kp kq a b hpq hq hp1 hq1 hp2 hq2
        by_cases eq : q = j
        · subst eq
          rw [ht] at hq1; cases hq1
          rw [hm0, hx] at hq2; cases hq2
          exact hPj p kp a hpq hp1 hp2
        · exact hP p q kp kq a b hpq (by omega) hp1 hq1 hp2 hq2
      · intro i b hb
        rw [List.getElem?_set] at hb
        by_cases ei : m = i
        · subst ei
          rw [if_pos rfl, if_pos (by omega)] at hb
          cases hb
          exact ⟨fun _ => ⟨j, Nat.lt_succ_self _, ht⟩, fun _ => rfl⟩
        · rw [if_neg ei] at hb
          refine (hSeen i b hb).trans ⟨fun ⟨p, p1, p2⟩ => ⟨p, by omega, p2⟩, fun ⟨p, p1, p2⟩ => ?_⟩
          by_cases ep : p = j
          · subst ep
            rw [ht] at p2
            exact absurd (Int.ofNat_inj.1 (Option.some.inj p2)) ei
          · exact ⟨p, by omega, p2⟩
      · intro hne b hb1 hb2
        rcases hb3 b hne hb1 with q | q
        · exact hap q.1 b q.2 hb2
        · exact hB2.own.blk hb2 q
  · have c : ¬ (n : Int) < (order.len : Int) := of_decide_eq_false c
    have en : n = os.length := by omega
    subst en
    refine Loop.up calls.len (fun s => s.1) (fun i s k' => k' = k ∧ Ended cs os i) rfl ⟨rfl, fun i c hi => absurd hi (Nat.not_lt_zero _)⟩ ?_
    rintro i ⟨jj, u2⟩ k' go2 hi2 hcj ⟨rfl, hE⟩ hgo2
    dsimp only at hcj; subst hcj
    refine ⟨fun d => ?_, fun d => ?_⟩
    · have d : (i : Int) < (calls.len : Int) := of_decide_eq_true d
      have d' : i < calls.len := by omega
      have hil : i < cs.length := by omega
      obtain ⟨x, hx⟩ : ∃ x, cs[i]? = some x := ⟨cs[i], by simp [hil]⟩
      obtain ⟨a, ea, _, _, en, _⟩ := cl_cells (ha.le hle) hx
      have j6 : ∀ b : Bool, (b = true → ¬ LegalL cs most os) → (b = false → Ended cs os (i + 1)) → ref4_Replay.j6 Q go2 ((i : Int), u2) (b, ()) k' := fun b g1 g2 =>
        ⟨fun e => hQ _ false k' ⟨fun q => (by cases q), fun q => absurd q (g1 e)⟩ hle, fun e => hgo2 d' _ _ (by show w64 ((i : Int) + 1) = _; rw [w64_of] <;> omega) ⟨rfl, g2 e⟩⟩
      have ext : (0 ≤ cEn x → ∃ p : Nat, os[p]? = some (i : Int)) → Ended cs os (i + 1) := fun g i' c hi' hc' hen => by
        by_cases ei : i' = i
        · subst ei; rw [hx] at hc'; cases hc'; exact g hen
        · exact hE i' c (by omega) hc' hen
      refine ⟨⟨by omega, d⟩, ?_⟩
      rw [ea]
      refine ⟨cEn x, en, fun e => ?_, fun e => ?_⟩
      · have e : 0 ≤ cEn x := of_decide_eq_true e
        have hs5 : s5.len = cs.length := by omega
        have hbl5 := hB.len
        have bi : (0 : Int) ≤ (i : Int) ∧ (i : Int) < (s5.len : Int) := ⟨by omega, by omega⟩
        refine ⟨bi, hB.arr.at (i := (i : Int)) bi.1 bi.2 rfl fun y hy => ?_⟩
        rw [Int.toNat_natCast] at hy
        have hseen := hSeen i y hy
        refine j6 _ (fun q r => ?_) (fun q => ext fun _ => ?_)
        · obtain ⟨p, hp⟩ := r.2.2 i x hil hx e
          have := hseen.2 ⟨p, (List.getElem?_eq_some_iff.1 hp).1, hp⟩
          rw [this] at q; cases q
        · obtain ⟨p, _, hp⟩ := hseen.1 (by cases y <;> first | rfl | cases q)
          exact ⟨p, hp⟩
      · have e : ¬ 0 ≤ cEn x := of_decide_eq_false e
        exact j6 false (fun q => by cases q) (fun _ => ext fun q => absurd q e)
    · have d : ¬ (i : Int) < (calls.len : Int) := of_decide_eq_false d
      have ei : i = cs.length := by omega
      subst ei
      exact hQ _ true k' ⟨fun _ => ⟨⟨xs, hS⟩, hP, hE⟩, fun _ => rfl⟩ hle

end Go.Mx
