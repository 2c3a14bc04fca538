/-
  The picks of a play and its accesses: who makes which.
-/
import Derived.Test.YtjkecefbbijajaaMxSa
set_option linter.unusedVariables false
set_option linter.unusedSimpArgs false
set_option linter.unusedSectionVars false
namespace Go.Mx

/-- A pick lies in a call of the owner. -/
def covC (c : DCl) (m : Nat) : Bool := decide (dWho c = 0) && (decide (dBeg c ≤ (m : Int)) && (decide (dEnd c < 0) || decide ((m : Int) ≤ dEnd c)))
def covB (cs : List DCl) (m : Nat) : Bool := cs.any fun c => covC c m
def idleB (W : List Nat) (cs : List DCl) (m : Nat) : Bool := decide (W[m]? = some 0) && !covB cs m
/-- How many of the first picks make an access. -/
def plc (W : List Nat) (cs : List DCl) : Nat → Nat
  | 0 => 0
  | m + 1 => plc W cs m + if idleB W cs m = true then 0 else 1
theorem plc_le (W : List Nat) (cs : List DCl) : ∀ m, plc W cs m ≤ m
  | 0 => Nat.le_refl _
  | m + 1 => by
    have := plc_le W cs m
    show plc W cs m + (if idleB W cs m = true then 0 else 1) ≤ m + 1
    split <;> omega
theorem plc_mono (W : List Nat) (cs : List DCl) {a b : Nat} (h : a ≤ b) : plc W cs a ≤ plc W cs b := by
  induction b with
  | zero => rw [show a = 0 by omega]; exact Nat.le_refl _
  | succ b ih =>
    by_cases e : a = b + 1
    · rw [e]; exact Nat.le_refl _
    · have := ih (by omega)
      show _ ≤ plc W cs b + (if idleB W cs b = true then 0 else 1)
      omega
theorem plc_congr {W : List Nat} {cs cs' : List DCl} : ∀ {k : Nat}, (∀ m, m < k → covB cs' m = covB cs m) → plc W cs' k = plc W cs k
  | 0, _ => rfl
  | k + 1, h => by
    show plc W cs' k + _ = plc W cs k + _
    rw [plc_congr (k := k) fun m hm => h m (by omega)]
    unfold idleB
    rw [h k (by omega)]
theorem covC_end {c : DCl} {n m : Nat} {code v : Int} (h : dEnd c = -1) (hm : m ≤ n) : covC (endCall c (n : Int) code v) m = covC c m := by
  have e1 : decide (dEnd c < 0) = true := decide_eq_true (by omega)
  have e2 : decide ((m : Int) ≤ (n : Int)) = true := decide_eq_true (by omega)
  show (decide (dWho c = 0) && (decide (dBeg c ≤ (m : Int)) && (decide ((n : Int) < 0) || decide ((m : Int) ≤ (n : Int))))) = (decide (dWho c = 0) && (decide (dBeg c ≤ (m : Int)) && (decide (dEnd c < 0) || decide ((m : Int) ≤ dEnd c))))
  rw [e1, e2, Bool.or_true, Bool.true_or]
theorem covB_end {cs : List DCl} {i : Nat} {c0 : DCl} (h0 : cs[i]? = some c0) (he : dEnd c0 = -1) {n m : Nat} (hm : m ≤ n) (code v : Int) : covB (endAt cs i (n : Int) code v) m = covB cs m := by
  have hi := (List.getElem?_eq_some_iff.1 h0).1
  unfold endAt
  rw [h0]
  show covB (cs.set i (endCall c0 (n : Int) code v)) m = _
  rw [Bool.eq_iff_iff]
  unfold covB
  rw [List.any_eq_true, List.any_eq_true]
  constructor
  · rintro ⟨x, hx, hc⟩
    rcases List.mem_or_eq_of_mem_set hx with hx | rfl
    · exact ⟨x, hx, hc⟩
    · rw [covC_end he hm] at hc
      exact ⟨c0, List.mem_of_getElem? h0, hc⟩
  · rintro ⟨x, hx, hc⟩
    obtain ⟨j, hj⟩ := List.mem_iff_getElem?.1 hx
    by_cases e : j = i
    · subst e
      rw [h0] at hj; cases hj
      exact ⟨endCall c0 (n : Int) code v, List.mem_iff_getElem?.2 ⟨j, List.getElem?_set_self hi⟩, by rw [covC_end he hm]; exact hc⟩
    · exact ⟨x, List.mem_iff_getElem?.2 ⟨j, by rw [List.getElem?_set_ne (fun z => e z.symm)]; exact hj⟩, hc⟩
theorem covB_snoc {cs : List DCl} {y : DCl} {m : Nat} (h : (m : Int) < dBeg y) : covB (cs ++ [y]) m = covB cs m := by
  unfold covB
  rw [List.any_append]
  have : covC y m = false := by
    unfold covC
    rw [show decide (dBeg y ≤ (m : Int)) = false from decide_eq_false (by omega), Bool.false_and, Bool.and_false]
  rw [List.any_cons, List.any_nil, this, Bool.or_false, Bool.or_false]
theorem pre_cov {most : Int} {p : PS} {k w : Nat} {q : PS} (e : p.pre most (k : Int) w = some q) {m : Nat} (hm : m < k) : covB q.calls m = covB p.calls m := by
  cases pre_cases e with
  | on _ eq => subst eq; rfl
  | push _ _ t ts _ _ eq => subst eq; exact covB_snoc (by show (m : Int) < (k : Int); omega)
  | pop _ _ t ts _ _ eq => subst eq; exact covB_snoc (by show (m : Int) < (k : Int); omega)
  | steal _ _ eq => subst eq; exact covB_snoc (by show (m : Int) < (k : Int); omega)
theorem go_cov {W : List Nat} {most : Int} {k : Nat} {q : PS} (ai : AI W most k q) {w : Nat} (hw : w < q.acts.length) (hr : 0 ≤ (q.act w).2) {v : Int} {m' : AS} {x : DOp} {N : Int} (r : GoR most q (k : Int) w v m' x N) {m : Nat} (hm : m ≤ k) : covB (q.go (k : Int) w).calls m = covB q.calls m := by
  by_cases xp : x.pc = 0
  · obtain ⟨c0, r1, r2, r3, _⟩ := ai.s0 w hw hr
    rw [show (q.go (k : Int) w).calls = endAt q.calls (q.act w).2.toNat (k : Int) x.code x.value by rw [r.off xp]]
    exact covB_end r1 r3 hm _ _
  · rw [show (q.go (k : Int) w).calls = q.calls by rw [r.on xp]]

/-- The ledger of a play, by its picks. -/
structure ZI (W : List Nat) (k : Nat) (p : PS) : Prop where
  len : p.m.lg.length = plc W p.calls k
  who : ∀ (m w : Nat), m < k → W[m]? = some w → idleB W p.calls m = false → ∃ e, p.m.lg[plc W p.calls m]? = some e ∧ aWho e = (w : Int)
theorem stN_zi {low most thieves : Int} {todos : List DTd} {picks : List Int} (hj : judgeE low most todos thieves picks = 0) {k : Nat} (hk : k ≤ picks.length) : ZI (whos thieves picks) k (stN low most todos thieves picks k) := by
  refine stN_ind hj (P := fun k p => ZI (whos thieves picks) k p) ⟨rfl, fun m w h => absurd h (Nat.not_lt_zero _)⟩ (fun k w a h e es => ?_) (fun k w q v m' x a h aq r es => ?_) hk
  · obtain ⟨z1, z2, z3⟩ := pre_none e
    subst z1
    have ahi := a.hi
    have aW := a.W
    generalize stN low most todos thieves picks k = p at *
    have nc : covB p.calls k = false := by
      cases hc : covB p.calls k with
      | false => rfl
      | true =>
        exfalso
        obtain ⟨c, hcm, hcc⟩ := List.any_eq_true.1 hc
        obtain ⟨i, hi⟩ := List.mem_iff_getElem?.1 hcm
        unfold covC at hcc
        rw [Bool.and_eq_true, Bool.and_eq_true, Bool.or_eq_true] at hcc
        obtain ⟨d1, d2, d3⟩ := hcc
        have d1 := of_decide_eq_true d1
        have hd := ahi.c2 i c hi
        rw [d1] at hd
        rcases hd with ⟨_, _, _, y⟩ | ⟨e', y1, _, y2, _⟩
        · have y : (p.act 0).2 = (i : Int) := y
          omega
        · rcases d3 with d3 | d3
          · have := of_decide_eq_true d3; omega
          · have := of_decide_eq_true d3; omega
    have hid : idleB (whos thieves picks) p.calls k = true := by
      unfold idleB
      rw [nc, decide_eq_true a.W]; rfl
    refine ⟨?_, fun m w hm hW hi => ?_⟩
    · show _ = plc _ _ k + (if _ then 0 else 1)
      rw [if_pos hid, h.len]; rfl
    · by_cases em : m = k
      · subst em; rw [hid] at hi; cases hi
      · exact h.who m w (by omega) hW hi
  · have hw := aq.wl a
    have hcv : ∀ m, m < k → covB (q.go (k : Int) w).calls m = covB (stN low most todos thieves picks k).calls m := fun m hm => (go_cov aq.ai hw aq.run r (by omega)).trans (pre_cov aq.pre hm)
    have hkc : idleB (whos thieves picks) (q.go (k : Int) w).calls k = false := by
      unfold idleB
      by_cases w0 : w = 0
      · subst w0
        have : covB (q.go (k : Int) 0).calls k = true := by
          rw [go_cov aq.ai hw aq.run r (Nat.le_refl _)]
          obtain ⟨c0, r1, r2, r3, _⟩ := aq.ai.s0 0 hw aq.run
          obtain ⟨w', b, y1, y2, y3, _⟩ := aq.hi.c1 _ c0 r1
          refine List.any_eq_true.2 ⟨c0, List.mem_of_getElem? r1, ?_⟩
          unfold covC
          rw [decide_eq_true (show dWho c0 = 0 from r2), decide_eq_true (show dBeg c0 ≤ (k : Int) by omega), decide_eq_true (show dEnd c0 < 0 by omega)]; rfl
        rw [this]; simp
      · rw [a.W]
        have : decide (some w = some 0) = false := decide_eq_false (fun z => w0 (Option.some.inj z))
        rw [this]; rfl
    obtain ⟨e, l1, l2, _⟩ := r.log aq.pi.wt
    have hlg : (q.go (k : Int) w).m.lg = (stN low most todos thieves picks k).m.lg ++ [e] := by rw [(r.act hw).1, l1, aq.m]
    generalize stN low most todos thieves picks k = p at *
    have hpl : ∀ j, j ≤ k → plc (whos thieves picks) (q.go (k : Int) w).calls j = plc (whos thieves picks) p.calls j := fun j hj => plc_congr fun m hm => hcv m (by omega)
    have hlen := h.len
    refine ⟨?_, fun m w' hm hW hi => ?_⟩
    · show _ = plc _ _ k + (if _ then 0 else 1)
      rw [if_neg (by rw [hkc]; decide), hlg, List.length_append, hlen, hpl k (Nat.le_refl _)]; rfl
    · by_cases em : m = k
      · subst em
        rw [a.W] at hW; cases hW
        rw [hpl m (Nat.le_refl _), hlg, ← hlen]
        exact ⟨e, by rw [List.getElem?_append_right (Nat.le_refl _), Nat.sub_self]; rfl, l2⟩
      · have hid : idleB (whos thieves picks) p.calls m = false := by
          unfold idleB at hi ⊢
          rw [hcv m (by omega)] at hi; exact hi
        obtain ⟨e', y1, y2⟩ := h.who m w' (by omega) hW hid
        rw [hpl m (by omega), hlg]
        exact ⟨e', by rw [List.getElem?_append_left (List.getElem?_eq_some_iff.1 y1).1]; exact y1, y2⟩

/-! ### the accesses of each call -/
theorem push_bound {most sz N : Int} {cs : List Int} {o : DOp} (h : OwnS most cs o) (xi : XI most o) (g : DG most sz N cs o) (k : o.kind = 1) : stepsOf o ≤ 9 + 2 * most := by
  obtain ⟨x1, x2⟩ := xi k
  have g8 := g.c1
  have g9 := g.cm
  have hg := g.t0
  cases h with
  | idle p => simp [stepsOf, k, p]; omega
  | pu1 _ p => simp [stepsOf, k, p]; omega
  | pu2 _ p => simp [stepsOf, k, p]; omega
  | pu3 _ p => simp [stepsOf, k, p]; omega
  | pu4 _ p => simp [stepsOf, k, p]; omega
  | pu5 _ p => simp [stepsOf, k, p]; omega
  | pu6 _ p => simp [stepsOf, k, p]; omega
  | pu7 _ p b t0 t f a c lt c2 a2 hd i1 i2 => simp [stepsOf, k, p]; omega
  | pu8 _ p b t0 t f a c lt c2 a2 hd i1 i2 => simp [stepsOf, k, p]; omega
  | pu9 _ p b t0 t f => simp [stepsOf, k, p]; omega
  | pu10 _ p => 
    rcases x2 (by omega) with z | ⟨z1, z2, z3⟩
    · simp [stepsOf, k, p, z]; omega
    · simp [stepsOf, k, p, show o.c2 ≠ 0 by omega]; omega
  | pu11 _ p => 
    rcases x2 (by omega) with z | ⟨z1, z2, z3⟩
    · simp [stepsOf, k, p, z]; omega
    · simp [stepsOf, k, p, show o.c2 ≠ 0 by omega]; omega
  | po1 k' | po3 k' | po11 k' | po2 k' | po4 k' | po12 k' | po13 k' | pe k' | pf k' => omega
/-- The picks that a call takes. -/
def spn (W : List Nat) (n : Nat) (c : DCl) : Int := (pk W (dWho c).toNat (if dEnd c < 0 then n else (dEnd c + 1).toNat) : Int) - (pk W (dWho c).toNat (dBeg c).toNat : Int)
theorem PF.span {W : List Nat} {todos : List DTd} {thieves most : Int} {n : Nat} {p : PS} (h : PF W todos thieves most n p) {i : Nat} {c : DCl} (hc : p.calls[i]? = some c) : spn W n c ≤ bndOf most (dKind c) ∧ 0 ≤ spn W n c ∧ (dEnd c < 0 → dWho c = 0 → spn W n c = stp p 0) := by
  obtain ⟨w, b, q1, q2, q3, q4, q5, q6⟩ := h.hi.c1 i c hc
  have hwl := h.wl
  rcases h.hi.c2 i c hc with ⟨z1, z2, z3, z4⟩ | ⟨e, y1, y2, y3, y4, y5, y6⟩
  · rw [q1, Int.toNat_natCast] at z4
    obtain ⟨c', r1, r2, r3, r4, r5⟩ := h.ai.s0 w q5 (by omega)
    rw [z4, Int.toNat_natCast, hc] at r1
    have r1 := Option.some.inj r1
    subst r1
    have e : spn W n c = stepsOf (p.act w).1 := by
      unfold spn
      rw [if_pos (by omega), q1, Int.toNat_natCast]; omega
    have pc : (p.act w).1.pc ≠ 0 := fun e => by have := (h.pi.run w q5).2 e; omega
    rw [e]
    have hb : 0 ≤ stepsOf (p.act w).1 ∧ stepsOf (p.act w).1 ≤ bndOf most (dKind c) := by
      by_cases w0 : w = 0
      · subst w0
        by_cases k1 : (p.act 0).1.kind = 1
        · have hb := push_bound h.pi.os h.ai.xi h.pi.dg k1
          have hbb : 0 ≤ gt p.m.cs 1 ∧ gt p.m.cs 1 ≤ 1000000000 := by
            have h1 := h.pi.dg.bn
            have h2 := h.pi.dg.tb
            have h3 := h.pi.dg.t0
            have h4 := h.pi.dg.nn
            rw [Bl_up (low1 k1)] at h1 h2
            omega
          have := push_steps h.pi.os h.ai.xi k1 pc hbb.1 hbb.2 h.pi.dg.c1 0
          unfold bndOf
          rw [if_pos (by omega)]
          exact ⟨this.2.2.2.1, hb⟩
        · have k2 : (p.act 0).1.kind = 2 := by
            cases h.pi.os with
            | idle p => exact absurd p pc
            | pu1 k' | pu2 k' | pu3 k' | pu4 k' | pu5 k' | pu6 k' | pu7 k' | pu8 k' | pu9 k' | pu10 k' | pu11 k' => exact absurd k' k1
            | po1 k' | po3 k' | po11 k' | po2 k' | po4 k' | po12 k' | po13 k' | pe k' | pf k' => exact k'
          obtain ⟨t1, t2, t3, t4⟩ := pop_steps h.pi.os k2 pc 0
          unfold bndOf
          rw [if_neg (by omega), if_pos (by omega)]
          omega
      · have k3 := h.pi.kind w (by omega) q5 pc
        obtain ⟨t1, t2, t3, t4⟩ := th_steps (h.pi.th w (by omega) q5) k3 pc 0
        unfold bndOf
        rw [if_neg (by omega), if_neg (by omega)]
        omega
    refine ⟨hb.2, hb.1, fun _ hw => ?_⟩
    have w0 : w = 0 := by omega
    subst w0
    unfold stp
    rw [if_pos (by omega)]
  · have := h.ai.s2 i c hc (by omega)
    unfold spn
    rw [if_neg (by omega)]
    have e2 : (dEnd c + 1).toNat = e + 1 := by omega
    have m := pk_mono (W := W) (w := (dWho c).toNat) (a := (dBeg c).toNat) (b := (dEnd c + 1).toNat) (by omega) (by omega)
    exact ⟨by omega, by omega, fun z => by omega⟩
theorem wsum_max {f : DCl → Int} {B : Int} (hB : 0 ≤ B) : ∀ {l : List DCl}, (∀ x ∈ l, 0 ≤ f x ∧ f x ≤ B) → (∀ (i j : Nat) a b, l[i]? = some a → l[j]? = some b → 0 < f a → 0 < f b → i = j) → wsum f l ≤ B
  | [], _, _ => hB
  | a :: l, hb, hu => by
    have e : wsum f (a :: l) = f a + wsum f l := by unfold wsum; rw [List.map_cons, List.sum_cons]
    rw [e]
    have ha := hb a (List.mem_cons_self ..)
    by_cases z : 0 < f a
    · have : ¬ 0 < wsum f l := fun q => by
        obtain ⟨j, x, z1, z2⟩ := wsum_pos q
        have := hu 0 (j + 1) a x rfl z1 z z2
        omega
      omega
    · have := wsum_max hB (l := l) (fun x hx => hb x (List.mem_cons_of_mem _ hx)) fun i j x y hx hy fx fy => by
        have := hu (i + 1) (j + 1) x y hx hy fx fy
        omega
      omega
def fW (W : List Nat) (n : Nat) (c : DCl) : Int := if dWho c = 0 then spn W n c else 0
def fN (c : DCl) : Int := if dWho c = 0 then 1 else 0
theorem fN_sum : ∀ l : List DCl, wsum fN l = (nOf 0 l : Int)
  | [] => rfl
  | a :: l => by
    have e : wsum fN (a :: l) = fN a + wsum fN l := by unfold wsum; rw [List.map_cons, List.sum_cons]
    rw [e, fN_sum l]
    unfold nOf fN
    by_cases z : dWho a = 0
    · rw [if_pos z, List.filter_cons_of_pos (by simp [z])]; simp; omega
    · rw [if_neg z, List.filter_cons_of_neg (by simp [z])]; simp
theorem PF.spent {W : List Nat} {todos : List DTd} {thieves most : Int} {n : Nat} {p : PS} (h : PF W todos thieves most n p) : wsum (fW W n) p.calls ≤ 15 * wsum fN p.calls := by
  obtain ⟨o1, o2⟩ := h.own15
  rw [fN_sum]
  let g : DCl → Int := fun c => if dWho c = 0 ∧ dEnd c < 0 then spn W n c else 0
  have hs : wsum (fW W n) p.calls = wsum (fO W) p.calls + wsum g p.calls := by
    have : ∀ l : List DCl, (∀ x ∈ l, dEnd x = -1 ∨ 0 ≤ dEnd x) → wsum (fW W n) l = wsum (fO W) l + wsum g l := fun l => by
      induction l with
      | nil => intro _; rfl
      | cons a l ih =>
        intro hl
        have e : ∀ f : DCl → Int, wsum f (a :: l) = f a + wsum f l := fun f => by unfold wsum; rw [List.map_cons, List.sum_cons]
        rw [e, e, e, ih fun x hx => hl x (List.mem_cons_of_mem _ hx)]
        have hh := hl a (List.mem_cons_self ..)
        have : fW W n a = fO W a + g a := by
          unfold fW fO
          show _ = _ + (if dWho a = 0 ∧ dEnd a < 0 then spn W n a else 0)
          by_cases z : dWho a = 0
          · rw [if_pos z]
            rcases hh with y | y
            · rw [if_neg (fun q => q.2 y), if_pos ⟨z, by omega⟩]; omega
            · rw [if_pos ⟨z, by omega⟩, if_neg (fun q => by omega)]
              unfold spn
              rw [if_neg (by omega), z]
              show _ = (pk W 0 _ : Int) - (pk W 0 _ : Int) + 0
              show (pk W 0 _ : Int) - (pk W 0 _ : Int) = _
              omega
          · rw [if_neg z, if_neg (fun q => z q.1), if_neg (fun q => z q.1)]; rfl
        omega
    refine this _ fun x hx => ?_
    obtain ⟨i, hi⟩ := List.mem_iff_getElem?.1 hx
    rcases h.hi.c2 i x hi with ⟨z, _⟩ | ⟨e, z, _⟩
    · exact .inl z
    · exact .inr (by omega)
  have hg : wsum g p.calls ≤ stp p 0 := by
    refine wsum_max o2 (fun x hx => ?_) fun i j a b ha hb ga gb => ?_
    · obtain ⟨i, hi⟩ := List.mem_iff_getElem?.1 hx
      show 0 ≤ (if dWho x = 0 ∧ dEnd x < 0 then spn W n x else 0) ∧ (if dWho x = 0 ∧ dEnd x < 0 then spn W n x else 0) ≤ stp p 0
      by_cases z : dWho x = 0 ∧ dEnd x < 0
      · rw [if_pos z, (h.span hi).2.2 z.2 z.1]; exact ⟨o2, Int.le_refl _⟩
      · rw [if_neg z]; exact ⟨Int.le_refl _, o2⟩
    · have ex : ∀ (i : Nat) c, p.calls[i]? = some c → 0 < g c → (p.act 0).2 = (i : Int) := fun i c hi hg => by
        by_cases z : dWho c = 0 ∧ dEnd c < 0
        · rcases h.hi.c2 i c hi with ⟨_, _, _, y⟩ | ⟨e, y, _⟩
          · rw [z.1] at y; exact y
          · omega
        · have : g c = 0 := if_neg z
          omega
      have := ex i a ha ga
      have := ex j b hb gb
      omega
  omega
end Go.Mx
