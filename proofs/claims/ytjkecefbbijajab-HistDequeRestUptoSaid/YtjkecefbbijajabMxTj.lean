/-
  Plays are linearizable: runs of rows.
  Plays are linearizable: the order that grows with the play.
  Plays are linearizable: a call is put at the end of the order.
  Plays are linearizable: a step, and how the order grows with it.
  Plays are linearizable: the order behind each step.
  Plays are linearizable: the order grows with each pick.
-/
import Derived.Test.YtjkecefbbijajabMxTe
set_option linter.unusedVariables false
set_option linter.unusedSimpArgs false
set_option linter.unusedSectionVars false
namespace Go.Mx

/-- Calls, one behind the other, on the plain deque. -/
def runR (most : Int) : List DCl → List Int → Option (List Int)
  | [], xs => some xs
  | c :: cs, xs => if (doL xs c most).2 = true then runR most cs (doL xs c most).1 else none
theorem runR_app {most : Int} : ∀ {a b : List DCl} {xs ys : List Int}, runR most a xs = some ys → runR most (a ++ b) xs = runR most b ys
  | [], b, xs, ys, h => by cases h; rfl
  | c :: a, b, xs, ys, h => by
    show (if (doL xs c most).2 = true then runR most (a ++ b) (doL xs c most).1 else none) = _
    have h : (if (doL xs c most).2 = true then runR most a (doL xs c most).1 else none) = some ys := h
    by_cases z : (doL xs c most).2 = true
    · rw [if_pos z] at h ⊢
      exact runR_app h
    · rw [if_neg z] at h; cases h
theorem runR_split {most : Int} : ∀ {a b : List DCl} {xs zs : List Int}, runR most (a ++ b) xs = some zs → ∃ ys, runR most a xs = some ys ∧ runR most b ys = some zs
  | [], b, xs, zs, h => ⟨xs, rfl, h⟩
  | c :: a, b, xs, zs, h => by
    have h : (if (doL xs c most).2 = true then runR most (a ++ b) (doL xs c most).1 else none) = some zs := h
    show ∃ ys, (if (doL xs c most).2 = true then runR most a (doL xs c most).1 else none) = some ys ∧ _
    by_cases z : (doL xs c most).2 = true
    · rw [if_pos z] at h ⊢
      exact runR_split h
    · rw [if_neg z] at h; cases h
theorem runR_one {most : Int} {c : DCl} {xs ys : List Int} (h : doL xs c most = (ys, true)) : runR most [c] xs = some ys := by
  show (if (doL xs c most).2 = true then runR most [] (doL xs c most).1 else none) = _
  rw [h]; rfl
theorem runR_cons {most : Int} {c : DCl} {cs : List DCl} {xs ys : List Int} (h : doL xs c most = (ys, true)) : runR most (c :: cs) xs = runR most cs ys := by
  show (if (doL xs c most).2 = true then runR most cs (doL xs c most).1 else none) = _
  rw [h]; rfl
/-- What each row does. -/
theorem doL_push {most : Int} {c : DCl} {xs : List Int} (k : dKind c = 0) (co : dCode c = 2) (hl : (xs.length : Int) < most) : doL xs c most = (xs ++ [dArg c], true) := by
  unfold doL
  rw [if_neg (show ¬ dCode c = 3 by omega), if_neg (show ¬ dCode c = 5 by omega), if_neg (show ¬ dCode c = 6 by omega), if_pos k, if_neg (by omega)]
theorem doL_full {most : Int} {c : DCl} {xs : List Int} (co : dCode c = 3) (hl : (xs.length : Int) = most) : doL xs c most = (xs, true) := by
  unfold doL
  rw [if_pos co, decide_eq_true hl]
theorem doL_empty {most : Int} {c : DCl} (co : dCode c = 5) : doL [] c most = ([], true) := by
  unfold doL
  rw [if_neg (show ¬ dCode c = 3 by omega), if_pos co]; rfl
theorem doL_lost {most : Int} {c : DCl} {xs : List Int} (co : dCode c = 6) : doL xs c most = (xs, true) := by
  unfold doL
  rw [if_neg (show ¬ dCode c = 3 by omega), if_neg (show ¬ dCode c = 5 by omega), if_pos co]
theorem doL_pop {most : Int} {c : DCl} {xs : List Int} {v : Int} (k : dKind c = 1) (co : dCode c = 0 ∨ (dCode c = 4 ∧ dVal c = v)) : doL (xs ++ [v]) c most = (xs, true) := by
  have hl : ¬ (xs ++ [v]).length = 0 := by rw [List.length_append]; simp
  unfold doL
  rw [if_neg (show ¬ dCode c = 3 by omega), if_neg (show ¬ dCode c = 5 by omega), if_neg (show ¬ dCode c = 6 by omega), if_neg (show ¬ dKind c = 0 by omega), if_neg hl, if_pos (show dKind c = 1 from k)]
  have h1 : (xs ++ [v]).take ((xs ++ [v]).length - 1) = xs := by rw [List.length_append]; simp
  rw [h1]
  have h2 : (c.2.2.2.2.2.1 = 0 ∨ (xs ++ [v])[(xs ++ [v]).length - 1]? = some c.2.2.2.2.2.2.1) := by
    rcases co with z | ⟨_, z⟩
    · exact .inl z
    · refine .inr ?_
      rw [getElem?_last]
      exact congrArg some z.symm
  rw [decide_eq_true h2]
theorem doL_steal {most : Int} {c : DCl} {xs : List Int} {v : Int} (k : dKind c = 2) (co : dCode c = 4) (hv : dVal c = v) : doL (v :: xs) c most = (xs, true) := by
  unfold doL
  rw [if_neg (show ¬ dCode c = 3 by omega), if_neg (show ¬ dCode c = 5 by omega), if_neg (show ¬ dCode c = 6 by omega), if_neg (show ¬ dKind c = 0 by omega), if_neg (show ¬ (v :: xs).length = 0 by simp), if_neg (show ¬ dKind c = 1 by omega)]
  have h2 : (c.2.2.2.2.2.1 = 0 ∨ (v :: xs)[0]? = some c.2.2.2.2.2.2.1) := .inr (congrArg some hv.symm)
  rw [decide_eq_true h2]; rfl
end Go.Mx

namespace Go.Mx

def dflt : DCl := (0, (0, (0, (0, (0, (0, (0, ())))))))
def rw' (cs : List DCl) (os : List (Nat × Nat)) : List DCl := os.map fun x => (cs[x.1]?).getD dflt
theorem rw_app (cs : List DCl) (a b : List (Nat × Nat)) : rw' cs (a ++ b) = rw' cs a ++ rw' cs b := by unfold rw'; rw [List.map_append]
theorem rw_cons (cs : List DCl) (x : Nat × Nat) (b : List (Nat × Nat)) : rw' cs (x :: b) = (cs[x.1]?).getD dflt :: rw' cs b := rfl
theorem rw_congr {cs cs' : List DCl} {os : List (Nat × Nat)} (h : ∀ x ∈ os, cs'[x.1]? = cs[x.1]?) : rw' cs' os = rw' cs os := by
  unfold rw'
  exact List.map_congr_left fun x hx => by rw [h x hx]
theorem rw_snoc {cs : List DCl} {y : DCl} {os : List (Nat × Nat)} (h : ∀ x ∈ os, x.1 < cs.length) : rw' (cs ++ [y]) os = rw' cs os :=
  rw_congr fun x hx => List.getElem?_append_left (h x hx)
theorem endAt_ne {cs : List DCl} {i j : Nat} (h : j ≠ i) (n code v : Int) : (endAt cs i n code v)[j]? = cs[j]? := by
  unfold endAt
  cases e : cs[i]? with
  | none => rfl
  | some c => exact List.getElem?_set_ne (fun q => h q.symm)
theorem rw_end {cs : List DCl} {i : Nat} {os : List (Nat × Nat)} (h : ∀ x ∈ os, x.1 ≠ i) (n code v : Int) : rw' (endAt cs i n code v) os = rw' cs os :=
  rw_congr fun x hx => endAt_ne (h x hx) n code v

/-- A thief that may have read BOTTOM as it stood before. -/
def late (o : DOp) : Prop := o.pc = 3 ∨ o.pc = 4 ∨ o.pc = 12 ∨ o.pc = 13
structure LN (most : Int) (k : Nat) (p : PS) (os : List (Nat × Nat)) : Prop where
  run : runR most (rw' p.calls os) [] = some (ctn p.m.cs)
  nd : (os.map (·.1)).Nodup
  srt : os.Pairwise fun a b => a.2 ≤ b.2
  pk : ∀ x ∈ os, x.2 < k
  ok : ∀ x ∈ os, ∃ c, p.calls[x.1]? = some c ∧ dBeg c ≤ (x.2 : Int) ∧ ((x.2 : Int) ≤ dEnd c ∨ dEnd c = -1)
  all : ∀ (i : Nat) c, p.calls[i]? = some c → dEnd c ≠ -1 → ∃ x ∈ os, x.1 = i
  only : ∀ x ∈ os, ∀ c, p.calls[x.1]? = some c → dEnd c = -1 → (p.act 0).2 = (x.1 : Int) ∧ hand p.m.cs (p.act 0).1 ≠ []
  pop : ∀ v, hand p.m.cs (p.act 0).1 = [v] → ∃ (os1 os2 : List (Nat × Nat)) (k1 : Nat) (zs : List Int), os = os1 ++ ((p.act 0).2.toNat, k1) :: os2 ∧ runR most (rw' p.calls os1) [] = some (zs ++ [v]) ∧ runR most (rw' p.calls os2) zs = some (ctn p.m.cs) ∧
    ∀ j, j ≠ 0 → j < p.acts.length → late (p.act j).1 → gt p.m.cs 1 ≤ (p.act j).1.t → (p.act j).1.t + (zs.length : Int) ≤ gt p.m.cs 1 ∧ ∀ c, p.calls[(p.act j).2.toNat]? = some c → dBeg c ≤ (k1 : Int)
  vv : ∀ c, 0 ≤ (p.act 0).2 → (p.act 0).1.kind = 1 → p.calls[(p.act 0).2.toNat]? = some c → (p.act 0).1.v = dArg c
  full : (p.act 0).1.kind = 1 → (p.act 0).1.pc = 3 ∨ (p.act 0).1.pc = 4 → ∀ c0, p.calls[(p.act 0).2.toNat]? = some c0 → ∃ (os1 os2 : List (Nat × Nat)) (k0 : Nat) (ys : List Int), os = os1 ++ os2 ∧ runR most (rw' p.calls os1) [] = some ys ∧ runR most (rw' p.calls os2) ys = some (ctn p.m.cs) ∧ (ys.length : Int) = (p.act 0).1.b - (p.act 0).1.t ∧ (∀ x ∈ os1, x.2 ≤ k0) ∧ (∀ x ∈ os2, k0 ≤ x.2) ∧ dBeg c0 ≤ (k0 : Int) ∧ k0 < k

/-- A call is taken up. -/
theorem LN.pre {most : Int} {k : Nat} {p : PS} {os : List (Nat × Nat)} (h : LN most k p os) {w : Nat} (hw : w < p.acts.length) {N : Int} (pi : PI most p N) {q : PS} (e : p.pre most (k : Int) w = some q) : LN most k q os := by
  obtain ⟨_, em, el, _, _, c1, c2⟩ := pi.pre hw e
  have m1 : 1 ≤ most := by have := pi.dg.c1; have := pi.dg.cm; omega
  have m2 := pi.dg.mx
  have h0 := pi.pos
  have hlt : ∀ x ∈ os, x.1 < p.calls.length := fun x hx => by
    obtain ⟨c, hc, _⟩ := h.ok x hx
    exact (List.getElem?_eq_some_iff.1 hc).1
  have key : ∀ (y : DCl), q.calls = p.calls ++ [y] → dEnd y = -1 → (hand p.m.cs (p.act 0).1 ≠ [] → q.act 0 = p.act 0) → ((q.act 0).1.kind = 1 → (q.act 0).1.pc = 3 ∨ (q.act 0).1.pc = 4 → q.act 0 = p.act 0) → (∀ j, j ≠ 0 → late (q.act j).1 → q.act j = p.act j) → (∀ c, 0 ≤ (q.act 0).2 → (q.act 0).1.kind = 1 → q.calls[(q.act 0).2.toNat]? = some c → (q.act 0).1.v = dArg c) → LN most k q os := fun y ec hy ho hf hj hvv => by
    have keep : ∀ {i : Nat}, i < p.calls.length → q.calls[i]? = p.calls[i]? := fun {i} hi => by rw [ec, List.getElem?_append_left hi]
    have hrw : ∀ {o2 : List (Nat × Nat)}, (∀ x ∈ o2, x ∈ os) → rw' q.calls o2 = rw' p.calls o2 := fun {o2} ho2 => by rw [ec]; exact rw_snoc fun x hx => hlt x (ho2 x hx)
    refine ⟨by rw [hrw fun x hx => hx, c1]; exact h.run, h.nd, h.srt, h.pk, fun x hx => ?_, fun i c hc he => ?_, fun x hx c hc he => ?_, fun v hv => ?_, hvv, fun k1 hp c0 hc0 => ?_⟩
    · obtain ⟨c, hc, hr⟩ := h.ok x hx
      exact ⟨c, by rw [keep (hlt x hx)]; exact hc, hr⟩
    · rw [ec] at hc
      rcases getElem?_snoc hc with ⟨_, hc⟩ | ⟨_, rfl⟩
      · exact h.all i c hc he
      · exact absurd hy he
    · rw [keep (hlt x hx)] at hc
      obtain ⟨a1, a2⟩ := h.only x hx c hc he
      rw [c2, ho a2]; exact ⟨a1, a2⟩
    · rw [c2] at hv
      have hne : hand p.m.cs (p.act 0).1 ≠ [] := by rw [hv]; exact List.cons_ne_nil _ _
      obtain ⟨os1, os2, k1, zs, e1, e2, e3, e4⟩ := h.pop v hv
      refine ⟨os1, os2, k1, zs, by rw [ho hne]; exact e1, ?_, ?_, fun j j0 hjl hl hge => ?_⟩
      · rw [hrw fun x hx => by rw [e1]; exact List.mem_append_left _ hx]; exact e2
      · rw [hrw fun x hx => by rw [e1]; exact List.mem_append_right _ (List.mem_cons_of_mem _ hx), c1]; exact e3
      · have ej := hj j j0 hl
        rw [ej] at hl hge ⊢
        rw [em] at hge ⊢
        rw [el] at hjl
        obtain ⟨b1, b2⟩ := e4 j j0 hjl hl hge
        refine ⟨b1, fun c hc => b2 c ?_⟩
        have hr : 0 ≤ (p.act j).2 := by
          rcases Int.lt_or_le (p.act j).2 0 with z | z
          · have := (pi.run j hjl).1 z
            unfold late at hl
            omega
          · exact z
        rw [keep (by have := pi.call j hjl; omega)] at hc; exact hc
    · have e := hf k1 hp
      rw [e] at k1 hp hc0 ⊢
      have hr : 0 ≤ (p.act 0).2 := by
        rcases Int.lt_or_le (p.act 0).2 0 with z | z
        · have := (pi.run 0 h0).1 z
          omega
        · exact z
      rw [keep (by have := pi.call 0 h0; omega)] at hc0
      obtain ⟨os1, os2, k0, ys, e1, e2, e3, e4⟩ := h.full k1 hp c0 hc0
      refine ⟨os1, os2, k0, ys, e1, ?_, ?_, e4⟩
      · rw [hrw fun x hx => by rw [e1]; exact List.mem_append_left _ hx]; exact e2
      · rw [hrw fun x hx => by rw [e1]; exact List.mem_append_right _ hx, c1]; exact e3
  have own : ∀ (x : DOp) (y : DCl) (ts : List DTd), (p.act 0).2 < 0 → x.pc = 1 → dEnd y = -1 → (x.kind = 1 → x.v = dArg y) → q = { p with todos := ts, acts := p.acts.set 0 (x, (p.calls.length : Int)), calls := p.calls ++ [y] } → LN most k q os := fun x y ts e0 hx hy hxv eq => by
    have pc0 := (pi.run 0 h0).1 e0
    have ea : ∀ j, q.act j = if j = 0 then (x, (p.calls.length : Int)) else p.act j := fun j => by rw [eq]; exact act_set (p := p) h0
    refine key y (by rw [eq]) hy (fun z => absurd (handp (.inl pc0)) z) (fun _ z => ?_) (fun j j0 _ => by rw [ea, if_neg j0]) ?_
    · rw [ea, if_pos rfl] at z
      have z : x.pc = 3 ∨ x.pc = 4 := z
      omega
    · rw [ea, if_pos rfl, eq]
      intro c _ hk hc
      have hc : (p.calls ++ [y])[((p.calls.length : Int)).toNat]? = some c := hc
      rw [Int.toNat_natCast, List.getElem?_append_right (Nat.le_refl _), Nat.sub_self] at hc
      rw [← Option.some.inj hc]; exact hxv hk
  cases pre_cases e with
  | on _ eq => subst eq; exact h
  | push w0 h1 t ts et k1 eq => exact own _ _ ts h1 (by unfold DOp.push; rw [begin_eq m1 m2]) rfl (fun _ => by unfold DOp.push; rw [begin_eq m1 m2]; rfl) eq
  | pop w0 h1 t ts et k1 eq =>
    have pk : (DOp.pop 0 most).kind = 2 := by unfold DOp.pop; rw [begin_eq m1 m2]
    exact own _ _ ts h1 (by unfold DOp.pop; rw [begin_eq m1 m2]) rfl (fun z => absurd (pk.symm.trans z) (by decide)) eq
  | steal w0 h1 eq =>
    have ea : ∀ j, q.act j = if j = w then (DOp.steal 0 most, (p.calls.length : Int)) else p.act j := fun j => by rw [eq]; exact act_set (p := p) hw
    have e0 : q.act 0 = p.act 0 := by rw [ea, if_neg (fun z => w0 z.symm)]
    refine key _ (by rw [eq]) rfl (fun _ => e0) (fun _ _ => e0) (fun j j0 hl => ?_) (fun c hr hk hc => ?_)
    · rw [ea] at hl ⊢
      by_cases z : j = w
      · rw [if_pos z] at hl
        have hl : late (DOp.steal 0 most) := hl
        have : (DOp.steal 0 most).pc = 2 := by unfold DOp.steal; rw [begin_eq m1 m2]
        unfold late at hl
        omega
      · rw [if_neg z]
    · rw [e0] at hr hk hc ⊢
      rw [eq] at hc
      have hc : (p.calls ++ [newCall (w : Int) 2 0 (k : Int)])[(p.act 0).2.toNat]? = some c := hc
      rw [List.getElem?_append_left (by have := pi.call 0 h0; omega)] at hc
      exact h.vv c hr hk hc
end Go.Mx

namespace Go.Mx

/-- The run of an order with an ended call behind it. -/
theorem run_app1 {most : Int} {cs : List DCl} {os : List (Nat × Nat)} {i k : Nat} {c0 : DCl} {code v : Int} {xs ys zs : List Int} (h : runR most (rw' cs os) xs = some ys) (r1 : cs[i]? = some c0) (nin : ∀ x ∈ os, x.1 ≠ i) (row : doL ys (endCall c0 (k : Int) code v) most = (zs, true)) : runR most (rw' (endAt cs i (k : Int) code v) (os ++ [(i, k)])) xs = some zs := by
  rw [rw_app, rw_end nin]
  have e : rw' (endAt cs i (k : Int) code v) [(i, k)] = [endCall c0 (k : Int) code v] := by
    show [((endAt cs i (k : Int) code v)[i]?).getD dflt] = _
    rw [(endAt_get r1 (k : Int) code v i (endCall c0 (k : Int) code v)).2 (.inl ⟨rfl, rfl⟩)]; rfl
  rw [e, runR_app h]
  exact runR_one row
/-- What does not hang on the run. -/
theorem LN.put {most : Int} {k : Nat} {q : PS} {os : List (Nat × Nat)} (h : LN most k q os) {i : Nat} {c0 : DCl} {code v : Int} (r1 : q.calls[i]? = some c0) (r3 : dEnd c0 = -1) (nin : ∀ x ∈ os, x.1 ≠ i) (bk : dBeg c0 ≤ (k : Int)) :
    ((os ++ [(i, k)]).map (·.1)).Nodup ∧ (os ++ [(i, k)]).Pairwise (fun a b => a.2 ≤ b.2) ∧ (∀ x ∈ os ++ [(i, k)], x.2 < k + 1) ∧
    (∀ x ∈ os ++ [(i, k)], ∃ c, (endAt q.calls i (k : Int) code v)[x.1]? = some c ∧ dBeg c ≤ (x.2 : Int) ∧ ((x.2 : Int) ≤ dEnd c ∨ dEnd c = -1)) ∧
    (∀ (j : Nat) c, (endAt q.calls i (k : Int) code v)[j]? = some c → dEnd c ≠ -1 → ∃ x ∈ os ++ [(i, k)], x.1 = j) := by
  have me := (endAt_get r1 (k : Int) code v i (endCall c0 (k : Int) code v)).2 (.inl ⟨rfl, rfl⟩)
  refine ⟨?_, ?_, fun x hx => ?_, fun x hx => ?_, fun j c hc he => ?_⟩
  · rw [List.map_append, List.nodup_append]
    refine ⟨h.nd, by simp, fun a ha b hb => ?_⟩
    obtain ⟨x, hx, rfl⟩ := List.mem_map.1 ha
    have : b = i := by simpa using hb
    rw [this]; exact nin x hx
  · rw [List.pairwise_append]
    refine ⟨h.srt, by simp, fun a ha b hb => ?_⟩
    have : b = (i, k) := by simpa using hb
    rw [this]; exact Nat.le_of_lt (h.pk a ha)
  · rcases List.mem_append.1 hx with hx | hx
    · exact Nat.lt_succ_of_lt (h.pk x hx)
    · have : x = (i, k) := by simpa using hx
      rw [this]; exact Nat.lt_succ_self k
  · rcases List.mem_append.1 hx with hx | hx
    · obtain ⟨c, hc, hr⟩ := h.ok x hx
      exact ⟨c, by rw [endAt_ne (nin x hx)]; exact hc, hr⟩
    · have : x = (i, k) := by simpa using hx
      rw [this]
      exact ⟨_, me, bk, .inl (Int.le_refl _)⟩
  · rcases (endAt_get r1 (k : Int) code v j c).1 hc with ⟨z, _⟩ | ⟨_, z⟩
    · exact ⟨(i, k), List.mem_append_right _ (by simp), z.symm⟩
    · obtain ⟨x, hx, e⟩ := h.all j c z he
      exact ⟨x, List.mem_append_left _ hx, e⟩
end Go.Mx

namespace Go.Mx

theorem late_after {o : DOp} {v : Int} (k : o.kind = 3) (h : late (o.after v)) : (late o ∧ (o.after v).t = o.t) ∨ (o.pc = 1 ∧ (o.after v).t = o.t ∧ o.t < v) := by
  revert h
  unfold DOp.after
  rw [if_neg (by omega), if_neg (by omega), if_pos k]
  have nl : ∀ x : DOp, (x.pc = 0 ∨ x.pc = 1) → ¬ late x := fun x h q => by unfold late at q; omega
  unfold DOp.stolen
  refine pif (P := fun x : DOp => late x → (late o ∧ x.t = o.t) ∨ (o.pc = 1 ∧ x.t = o.t ∧ o.t < v)) (fun p q => absurd q (nl _ (.inr rfl))) fun p2 => ?_
  refine pif (P := fun x : DOp => late x → (late o ∧ x.t = o.t) ∨ (o.pc = 1 ∧ x.t = o.t ∧ o.t < v)) (fun p => ?_) fun p1 => ?_
  · refine pif (P := fun x : DOp => late x → (late o ∧ x.t = o.t) ∨ (o.pc = 1 ∧ x.t = o.t ∧ o.t < v)) (fun _ q => absurd q (nl _ (.inl rfl))) fun hlt _ => .inr ⟨p, rfl, by omega⟩
  refine pif (P := fun x : DOp => late x → (late o ∧ x.t = o.t) ∨ (o.pc = 1 ∧ x.t = o.t ∧ o.t < v)) (fun p _ => .inl ⟨.inl p, rfl⟩) fun p3 => ?_
  refine pif (P := fun x : DOp => late x → (late o ∧ x.t = o.t) ∨ (o.pc = 1 ∧ x.t = o.t ∧ o.t < v)) (fun p => ?_) fun p4 => ?_
  · refine pif (P := fun x : DOp => late x → (late o ∧ x.t = o.t) ∨ (o.pc = 1 ∧ x.t = o.t ∧ o.t < v)) (fun _ q => absurd q (nl _ (.inl rfl))) fun _ _ => .inl ⟨.inr (.inl p), rfl⟩
  refine pif (P := fun x : DOp => late x → (late o ∧ x.t = o.t) ∨ (o.pc = 1 ∧ x.t = o.t ∧ o.t < v)) (fun p _ => .inl ⟨.inr (.inr (.inl p)), rfl⟩) fun p12 => ?_
  refine pif (P := fun x : DOp => late x → (late o ∧ x.t = o.t) ∨ (o.pc = 1 ∧ x.t = o.t ∧ o.t < v)) (fun p => ?_) fun p13 q => .inl ⟨q, rfl⟩
  exact pif (P := fun x : DOp => late x → (late o ∧ x.t = o.t) ∨ (o.pc = 1 ∧ x.t = o.t ∧ o.t < v)) (fun _ q => absurd q (nl _ (.inl rfl))) fun _ q => absurd q (nl _ (.inl rfl))
/-- The order where a call is put somewhere in it. -/
theorem ins_pairwise {os1 os2 : List (Nat × Nat)} {i k0 : Nat} (h : (os1 ++ os2).Pairwise fun a b => a.2 ≤ b.2) (h1 : ∀ x ∈ os1, x.2 ≤ k0) (h2 : ∀ x ∈ os2, k0 ≤ x.2) : (os1 ++ (i, k0) :: os2).Pairwise fun a b => a.2 ≤ b.2 := by
  rw [List.pairwise_append] at h ⊢
  refine ⟨h.1, List.pairwise_cons.2 ⟨fun x hx => h2 x hx, h.2.1⟩, fun a ha b hb => ?_⟩
  rcases List.mem_cons.1 hb with rfl | hb
  · exact h1 a ha
  · exact h.2.2 a ha b hb
theorem ins_nodup {os1 os2 : List (Nat × Nat)} {i k0 : Nat} (h : ((os1 ++ os2).map (·.1)).Nodup) (nin : ∀ x ∈ os1 ++ os2, x.1 ≠ i) : ((os1 ++ (i, k0) :: os2).map (·.1)).Nodup := by
  rw [List.map_append, List.nodup_append] at h
  rw [List.map_append, List.map_cons, List.nodup_append]
  refine ⟨h.1, List.nodup_cons.2 ⟨fun z => ?_, h.2.1⟩, fun a ha b hb => ?_⟩
  · obtain ⟨x, hx, e⟩ := List.mem_map.1 z
    exact nin x (List.mem_append_right _ hx) e
  · rcases List.mem_cons.1 hb with rfl | hb
    · obtain ⟨x, hx, e⟩ := List.mem_map.1 ha
      rw [← e]; exact nin x (List.mem_append_left _ hx)
    · exact h.2.2 a ha b hb

/-- What a step finds, and what is behind it. -/
structure GoS (most : Int) (k : Nat) (q : PS) (w : Nat) (v : Int) (m' : AS) (x : DOp) (N : Int) (c0 : DCl) : Prop where
  hw : w < q.acts.length
  hr : 0 ≤ (q.act w).2
  pc : (q.act w).1.pc ≠ 0
  pi : PI most q N
  r : GoR most q (k : Int) w v m' x N
  r1 : q.calls[(q.act w).2.toNat]? = some c0
  r2 : dWho c0 = (w : Int)
  r3 : dEnd c0 = -1
  r4 : dKind c0 + 1 = (q.act w).1.kind
  c00 : dCode c0 = 0
  bk : ∀ (i : Nat) c, q.calls[i]? = some c → dBeg c ≤ (k : Int)
  em : (q.go (k : Int) w).m = m'
  act1 : ∀ j, ((q.go (k : Int) w).act j).1 = if j = w then x else (q.act j).1
  act2 : ∀ j, ((q.go (k : Int) w).act j).2 = if j = w then (if x.pc = 0 then -1 else (q.act w).2) else (q.act j).2
  alen : (q.go (k : Int) w).acts.length = q.acts.length
  runs : ∀ j, j < q.acts.length → 0 ≤ (q.act j).2 → ∃ c, q.calls[(q.act j).2.toNat]? = some c ∧ dWho c = (j : Int) ∧ dEnd c = -1
  idx : ∀ j, j < q.acts.length → 0 ≤ (q.act j).2 → j ≠ w → (q.act j).2.toNat ≠ (q.act w).2.toNat
  onc : x.pc ≠ 0 → (q.go (k : Int) w).calls = q.calls
  offc : x.pc = 0 → (q.go (k : Int) w).calls = endAt q.calls (q.act w).2.toNat (k : Int) x.code x.value
theorem GoS.mk' {W : List Nat} {td : List DTd} {most : Int} {k : Nat} {q : PS} (ai : AI W most k q) (hi : HI W td (k + 1) q) {w : Nat} (hw : w < q.acts.length) (hr : 0 ≤ (q.act w).2) {N : Int} (pi : PI most q N) {v : Int} {m' : AS} {x : DOp} (r : GoR most q (k : Int) w v m' x N) : ∃ c0, GoS most k q w v m' x N c0 := by
  obtain ⟨e1, e2⟩ := r.act hw
  have pc : (q.act w).1.pc ≠ 0 := fun z => by have := (pi.run w hw).2 z; omega
  obtain ⟨c0, r1, r2, r3, r4, r5⟩ := ai.s0 w hw hr
  refine ⟨c0, hw, hr, pc, pi, r, r1, r2, r3, r4, ?_, fun i c hc => ?_, e1, e2, fun j => ?_, ?_, fun j hj hrj => ?_, fun j hj hrj hjw z => ?_, fun xp => by rw [r.on xp], fun xp => by rw [r.off xp]⟩
  · rcases hi.c2 _ c0 r1 with ⟨_, z, _⟩ | ⟨e, z, _⟩
    · exact z
    · omega
  · obtain ⟨w', b, _, q2, q3, _⟩ := hi.c1 i c hc; omega
  · by_cases xp : x.pc = 0
    · rw [r.off xp, if_pos xp]
      have := act_set (p := { q with m := m', calls := endAt q.calls (q.act w).2.toNat (k : Int) x.code x.value }) (x := (x, -1)) (j := j) hw
      have h2 : ({ q with m := m', acts := q.acts.set w (x, -1), calls := endAt q.calls (q.act w).2.toNat (k : Int) x.code x.value } : PS).act j = if j = w then (x, -1) else q.act j := this
      rw [h2]; split <;> rfl
    · rw [r.on xp, if_neg xp]
      have := act_set (p := { q with m := m' }) (x := (x, (q.act w).2)) (j := j) hw
      have h2 : ({ q with m := m', acts := q.acts.set w (x, (q.act w).2) } : PS).act j = if j = w then (x, (q.act w).2) else q.act j := this
      rw [h2]; split <;> rfl
  · by_cases xp : x.pc = 0
    · rw [r.off xp]; exact List.length_set
    · rw [r.on xp]; exact List.length_set
  · obtain ⟨c', s1, s2, s3, _⟩ := ai.s0 j hj hrj
    exact ⟨c', s1, s2, s3⟩
  · obtain ⟨c', s1, s2, _⟩ := ai.s0 j hj hrj
    rw [z, r1] at s1
    cases s1
    omega
section
variable {most : Int} {k : Nat} {q : PS} {w : Nat} {v : Int} {m' : AS} {x : DOp} {N : Int} {c0 : DCl} {os : List (Nat × Nat)}
theorem GoS.kx (S : GoS most k q w v m' x N c0) : x.kind = (q.act w).1.kind ∧ x.v = (q.act w).1.v := by
  have := (q.act w).1.after_same v
  rw [← S.r.ex] at this
  exact ⟨this.1, this.2.2.2⟩
theorem GoS.calls (S : GoS most k q w v m' x N c0) (i : Nat) (c : DCl) : (q.go (k : Int) w).calls[i]? = some c ↔ (x.pc = 0 ∧ i = (q.act w).2.toNat ∧ c = endCall c0 (k : Int) x.code x.value) ∨ ((x.pc ≠ 0 ∨ i ≠ (q.act w).2.toNat) ∧ q.calls[i]? = some c) := by
  by_cases xp : x.pc = 0
  · rw [S.offc xp, endAt_get S.r1]
    constructor
    · rintro (⟨a, b⟩ | ⟨a, b⟩)
      · exact .inl ⟨xp, a, b⟩
      · exact .inr ⟨.inr a, b⟩
    · rintro (⟨_, a, b⟩ | ⟨a, b⟩)
      · exact .inl ⟨a, b⟩
      · exact .inr ⟨a.resolve_left (fun z => z xp), b⟩
  · rw [S.onc xp]
    constructor
    · exact fun a => .inr ⟨.inl xp, a⟩
    · rintro (⟨a, _⟩ | ⟨_, b⟩)
      · exact absurd a xp
      · exact b
theorem GoS.nin (S : GoS most k q w v m' x N c0) (h : LN most k q os) (h0 : w = 0 → hand q.m.cs (q.act 0).1 = []) : ∀ y ∈ os, y.1 ≠ (q.act w).2.toNat := fun y hy e => by
  obtain ⟨a1, a2⟩ := h.only y hy c0 (by rw [e]; exact S.r1) S.r3
  by_cases w0 : w = 0
  · exact a2 (h0 w0)
  · exact S.idx 0 S.pi.pos (by omega) (fun z => w0 z.symm) (by omega)
/-- The thieves that are late behind the step were so before. -/
theorem GoS.lates (S : GoS most k q w v m' x N c0) {j : Nat} (j0 : j ≠ 0) (hj : j < q.acts.length) (hl : late ((q.go (k : Int) w).act j).1) (hb : gt m'.cs 1 = gt q.m.cs 1) (ht : gt m'.cs 1 ≤ ((q.go (k : Int) w).act j).1.t) :
    late (q.act j).1 ∧ ((q.go (k : Int) w).act j).1.t = (q.act j).1.t ∧ ((q.go (k : Int) w).act j).2 = (q.act j).2 := by
  rw [S.act1] at hl ht ⊢
  rw [S.act2]
  by_cases jw : j = w
  · subst jw
    rw [if_pos rfl] at hl ht ⊢
    rw [if_pos rfl]
    have xp : x.pc ≠ 0 := fun z => by unfold late at hl; omega
    rw [if_neg xp]
    have k3 := S.pi.kind j (by omega) hj S.pc
    have hxe := S.r.ex
    rw [hxe] at hl ht ⊢
    rcases late_after k3 hl with ⟨y1, y2⟩ | ⟨y1, y2, y3⟩
    · exact ⟨y1, y2, rfl⟩
    · exfalso
      obtain ⟨e, l1, l2, l3⟩ := S.r.log S.pi.wt
      rw [req1 (S.pi.mach j hj S.pc).1 y1] at l3
      have hv : v = gt q.m.cs 1 := l3.2.1
      omega
  · rw [if_neg jw] at hl ht ⊢
    rw [if_neg jw]
    exact ⟨hl, rfl, rfl⟩
theorem late_run (S : GoS most k q w v m' x N c0) {j : Nat} (hj : j < q.acts.length) (hl : late (q.act j).1) : 0 ≤ (q.act j).2 := by
  rcases Int.lt_or_le (q.act j).2 0 with z | z
  · have := (S.pi.run j hj).1 z
    unfold late at hl
    omega
  · exact z
theorem GoS.len (S : GoS most k q w v m' x N c0) {j : Nat} (hj : j < q.acts.length) (hr : 0 ≤ (q.act j).2) : (q.act j).2.toNat < q.calls.length := by have := S.pi.call j hj; omega
/-- Of a call that has begun before: how it stands behind the step. -/
theorem GoS.beg (S : GoS most k q w v m' x N c0) {i : Nat} {c : DCl} (hc : (q.go (k : Int) w).calls[i]? = some c) : ∃ c', q.calls[i]? = some c' ∧ dBeg c = dBeg c' := by
  rcases (S.calls i c).1 hc with ⟨_, rfl, rfl⟩ | ⟨_, h⟩
  · exact ⟨c0, S.r1, rfl⟩
  · exact ⟨c, h, rfl⟩
theorem GoS.vv (S : GoS most k q w v m' x N c0) (h : LN most k q os) : ∀ c, 0 ≤ ((q.go (k : Int) w).act 0).2 → ((q.go (k : Int) w).act 0).1.kind = 1 → (q.go (k : Int) w).calls[((q.go (k : Int) w).act 0).2.toNat]? = some c → ((q.go (k : Int) w).act 0).1.v = dArg c := by
  intro c hr hk hc
  rw [S.act1] at hk ⊢
  rw [S.act2] at hr hc
  by_cases w0 : 0 = w
  · subst w0
    rw [if_pos rfl] at hk hr hc ⊢
    by_cases xp : x.pc = 0
    · rw [if_pos xp] at hr; exact absurd hr (by decide)
    · rw [if_neg xp, S.onc xp] at hc
      rw [S.kx.2]
      exact h.vv c S.hr (by rw [← S.kx.1]; exact hk) hc
  · rw [if_neg w0] at hk hr hc ⊢
    rcases (S.calls _ c).1 hc with ⟨_, z, _⟩ | ⟨_, hc⟩
    · exact absurd z (S.idx 0 S.pi.pos hr w0)
    · exact h.vv c hr hk hc
theorem push_after {o : DOp} (k : o.kind = 1) (h : (o.after v).pc = 3 ∨ (o.after v).pc = 4) : (o.pc = 2 ∧ (o.after v).t = v ∧ (o.after v).b = o.b) ∨ (o.pc = 3 ∧ (o.after v).t = o.t ∧ (o.after v).b = o.b) ∨ o.pc = 0 ∨ 13 < o.pc ∨ o.pc < 0 ∨ o.pc = 12 ∨ o.pc = 13 := by
  revert h
  unfold DOp.after
  rw [if_pos k]
  unfold DOp.pushed
  refine pif (P := fun x : DOp => (x.pc = 3 ∨ x.pc = 4) → (o.pc = 2 ∧ x.t = v ∧ x.b = o.b) ∨ (o.pc = 3 ∧ x.t = o.t ∧ x.b = o.b) ∨ o.pc = 0 ∨ 13 < o.pc ∨ o.pc < 0 ∨ o.pc = 12 ∨ o.pc = 13) (fun _ h => by dsimp only at h; omega) fun p1 => ?_
  refine pif (P := fun x : DOp => (x.pc = 3 ∨ x.pc = 4) → (o.pc = 2 ∧ x.t = v ∧ x.b = o.b) ∨ (o.pc = 3 ∧ x.t = o.t ∧ x.b = o.b) ∨ o.pc = 0 ∨ 13 < o.pc ∨ o.pc < 0 ∨ o.pc = 12 ∨ o.pc = 13) (fun p _ => .inl ⟨p, rfl, rfl⟩) fun p2 => ?_
  refine pif (P := fun x : DOp => (x.pc = 3 ∨ x.pc = 4) → (o.pc = 2 ∧ x.t = v ∧ x.b = o.b) ∨ (o.pc = 3 ∧ x.t = o.t ∧ x.b = o.b) ∨ o.pc = 0 ∨ 13 < o.pc ∨ o.pc < 0 ∨ o.pc = 12 ∨ o.pc = 13) (fun p _ => .inr (.inl ⟨p, rfl, rfl⟩)) fun p3 => ?_
  have no : ∀ y : DOp, (y.pc ≠ 3 ∧ y.pc ≠ 4) → (y.pc = 3 ∨ y.pc = 4) → (o.pc = 2 ∧ y.t = v ∧ y.b = o.b) ∨ (o.pc = 3 ∧ y.t = o.t ∧ y.b = o.b) ∨ o.pc = 0 ∨ 13 < o.pc ∨ o.pc < 0 ∨ o.pc = 12 ∨ o.pc = 13 := fun y h q => by omega
  have n0 : (0 : Int) ≠ 3 ∧ (0 : Int) ≠ 4 := by decide
  repeat' split
  all_goals first
    | exact no _ n0
    | exact no _ (show (10 : Int) ≠ 3 ∧ (10 : Int) ≠ 4 by decide)
    | exact no _ (show (5 : Int) ≠ 3 ∧ (5 : Int) ≠ 4 by decide)
    | exact no _ (show (6 : Int) ≠ 3 ∧ (6 : Int) ≠ 4 by decide)
    | exact no _ (show (7 : Int) ≠ 3 ∧ (7 : Int) ≠ 4 by decide)
    | exact no _ (show (8 : Int) ≠ 3 ∧ (8 : Int) ≠ 4 by decide)
    | exact no _ (show (9 : Int) ≠ 3 ∧ (9 : Int) ≠ 4 by decide)
    | exact no _ (show (11 : Int) ≠ 3 ∧ (11 : Int) ≠ 4 by decide)
    | exact fun _ => by omega
/-- A push that goes on: its record. -/
theorem GoS.reco (S : GoS most k q w v m' x N c0) (h : LN most k q os) (w0 : w = 0) (xp : x.pc ≠ 0) (hc : ctn m'.cs = ctn q.m.cs) (hk : x.kind = 1) (hp : x.pc = 3 ∨ x.pc = 4) :
    ∃ (os1 os2 : List (Nat × Nat)) (k0 : Nat) (ys : List Int), os = os1 ++ os2 ∧ runR most (rw' q.calls os1) [] = some ys ∧ runR most (rw' q.calls os2) ys = some (ctn q.m.cs) ∧ (ys.length : Int) = x.b - x.t ∧ (∀ y ∈ os1, y.2 ≤ k0) ∧ (∀ y ∈ os2, k0 ≤ y.2) ∧ dBeg c0 ≤ (k0 : Int) ∧ k0 < k + 1 := by
  subst w0
  have k1 : (q.act 0).1.kind = 1 := by rw [← S.kx.1]; exact hk
  have hxe := S.r.ex
  rw [hxe] at hp ⊢
  have rng : 1 ≤ (q.act 0).1.pc ∧ (q.act 0).1.pc ≤ 11 := by
    have := S.pc
    cases S.pi.os with
    | idle p => exact absurd p S.pc
    | pu1 k' p | pu2 k' p | pu3 k' p | pu4 k' p | pu5 k' p | pu6 k' p | pu7 k' p | pu8 k' p | pu9 k' p | pu10 k' p | pu11 k' p => omega
    | po1 k' p | po3 k' p | po11 k' p | po2 k' p | po4 k' p | po12 k' p | po13 k' p | pe k' p | pf k' p => omega
  rcases push_after k1 hp with ⟨p2, ht, hb⟩ | ⟨p3, ht, hb⟩ | z
  · obtain ⟨e, l1, l2, l3⟩ := S.r.log S.pi.wt
    rw [req2 (S.pi.mach 0 S.hw S.pc).1 p2] at l3
    have hv : v = gt q.m.cs 0 := l3.2.1
    have hbb : (q.act 0).1.b = gt q.m.cs 1 := by
      cases S.pi.os with
      | pu2 _ _ hb => exact hb
      | idle p => omega
      | pu1 k' p | pu3 k' p | pu4 k' p | pu5 k' p | pu6 k' p | pu7 k' p | pu8 k' p | pu9 k' p | pu10 k' p | pu11 k' p => omega
      | po1 k' p | po3 k' p | po11 k' p | po2 k' p | po4 k' p | po12 k' p | po13 k' p | pe k' p | pf k' p => omega
    have tb := S.pi.dg.tb
    rw [Bl_up (low1 k1)] at tb
    refine ⟨os, [], k, ctn q.m.cs, (List.append_nil _).symm, h.run, rfl, ?_, fun y hy => Nat.le_of_lt (h.pk y hy), fun y hy => (by cases hy), S.bk _ _ S.r1, Nat.lt_succ_self k⟩
    rw [ctn_len, ht, hb, hv, hbb]
    omega
  · obtain ⟨os1, os2, k0, ys, f1, f2, f3, f4, f5, f6, f7, f8⟩ := h.full k1 (.inl p3) c0 S.r1
    exact ⟨os1, os2, k0, ys, f1, f2, f3, by rw [f4, ht, hb], f5, f6, f7, Nat.lt_succ_of_lt f8⟩
  · omega
/-- A step behind which the order is as it was. -/
theorem LN.stay (S : GoS most k q w v m' x N c0) (h : LN most k q os) (xp : x.pc ≠ 0) (hc : ctn m'.cs = ctn q.m.cs) (hh : hand m'.cs ((q.go (k : Int) w).act 0).1 = hand q.m.cs (q.act 0).1) (hb : hand q.m.cs (q.act 0).1 ≠ [] → gt m'.cs 1 = gt q.m.cs 1) : LN most (k + 1) (q.go (k : Int) w) os := by
  have ec := S.onc xp
  have a2 : ∀ j, ((q.go (k : Int) w).act j).2 = (q.act j).2 := fun j => by
    rw [S.act2, if_neg xp]
    by_cases z : j = w
    · rw [if_pos z, z]
    · rw [if_neg z]
  refine ⟨by rw [ec, S.em, hc]; exact h.run, h.nd, h.srt, fun y hy => Nat.lt_succ_of_lt (h.pk y hy), by rw [ec]; exact h.ok, by rw [ec]; exact h.all, fun y hy c hcc he => ?_, fun u hu => ?_, S.vv h, fun k1 hp c1 hc1 => ?_⟩
  · rw [ec] at hcc
    rw [a2, S.em, hh]
    exact h.only y hy c hcc he
  · rw [S.em, hh] at hu
    obtain ⟨os1, os2, k1, zs, f1, f2, f3, f4⟩ := h.pop u hu
    have hb := hb (by rw [hu]; exact List.cons_ne_nil _ _)
    refine ⟨os1, os2, k1, zs, by rw [a2]; exact f1, by rw [ec]; exact f2, by rw [ec, S.em, hc]; exact f3, fun j j0 hj hl ht => ?_⟩
    rw [S.alen] at hj
    rw [S.em] at ht ⊢
    obtain ⟨y1, y2, y3⟩ := S.lates j0 hj hl hb ht
    rw [y2, y3, hb, ec]
    rw [y2, hb] at ht
    exact f4 j j0 hj y1 ht
  · rw [a2, ec] at hc1
    rw [ec, S.em, hc]
    by_cases w0 : w = 0
    · subst w0
      rw [S.r1] at hc1
      cases hc1
      rw [S.act1, if_pos rfl] at k1 hp ⊢
      exact S.reco h rfl xp hc k1 hp
    · rw [S.act1, if_neg (fun z => w0 z.symm)] at k1 hp ⊢
      obtain ⟨os1, os2, k0, ys, f1, f2, f3, f4, f5, f6, f7, f8⟩ := h.full k1 hp c1 hc1
      exact ⟨os1, os2, k0, ys, f1, f2, f3, f4, f5, f6, f7, Nat.lt_succ_of_lt f8⟩
end
end Go.Mx

namespace Go.Mx
section
variable {most : Int} {k : Nat} {q : PS} {w : Nat} {v : Int} {m' : AS} {x : DOp} {N : Int} {c0 : DCl} {os : List (Nat × Nat)}
theorem runR_snoc {xs ys zs : List Int} {a : List DCl} {c : DCl} (h : runR most a xs = some ys) (d : doL ys c most = (zs, true)) : runR most (a ++ [c]) xs = some zs := by
  rw [runR_app h]; exact runR_one d
theorem rw_one {cs : List DCl} {y : Nat × Nat} {c : DCl} (h : cs[y.1]? = some c) : rw' cs [y] = [c] := by
  show [(cs[y.1]?).getD dflt] = _
  rw [h]; rfl
/-- The owner's call runs. -/
theorem GoS.run0 (S : GoS most k q w v m' x N c0) (hr : 0 ≤ (q.act 0).2) {c : DCl} (hc : q.calls[(q.act 0).2.toNat]? = some c) : dEnd c = -1 := by
  obtain ⟨c', h1, _, h2⟩ := S.runs 0 S.pi.pos hr
  rw [h1] at hc; cases hc; exact h2
/-- The ended call's row. -/
theorem GoS.me (S : GoS most k q w v m' x N c0) (xp : x.pc = 0) : (q.go (k : Int) w).calls[(q.act w).2.toNat]? = some (endCall c0 (k : Int) x.code x.value) := (S.calls _ _).2 (.inl ⟨xp, rfl, rfl⟩)
theorem GoS.rw (S : GoS most k q w v m' x N c0) {o2 : List (Nat × Nat)} (nin : ∀ y ∈ o2, y.1 ≠ (q.act w).2.toNat) : rw' (q.go (k : Int) w).calls o2 = rw' q.calls o2 := by
  by_cases xp : x.pc = 0
  · rw [S.offc xp]; exact rw_end nin _ _ _
  · rw [S.onc xp]
/-- What is common to all steps that end a call. -/
theorem GoS.ok (S : GoS most k q w v m' x N c0) (h : LN most k q os) (xp : x.pc = 0) {y : Nat × Nat} (hy : y ∈ os) : ∃ c, (q.go (k : Int) w).calls[y.1]? = some c ∧ dBeg c ≤ (y.2 : Int) ∧ ((y.2 : Int) ≤ dEnd c ∨ dEnd c = -1) := by
  obtain ⟨c, hc, h1, h2⟩ := h.ok y hy
  by_cases z : y.1 = (q.act w).2.toNat
  · refine ⟨endCall c0 (k : Int) x.code x.value, by rw [z]; exact S.me xp, ?_, .inl ?_⟩
    · rw [z, S.r1] at hc
      cases hc
      exact h1
    · show (y.2 : Int) ≤ (k : Int)
      have := h.pk y hy
      omega
  · exact ⟨c, (S.calls _ _).2 (.inr ⟨.inr z, hc⟩), h1, h2⟩
theorem GoS.all (S : GoS most k q w v m' x N c0) (h : LN most k q os) {os' : List (Nat × Nat)} (sub : ∀ y ∈ os, y.1 ≠ (q.act w).2.toNat → ∃ z ∈ os', z.1 = y.1) (new : ∃ z ∈ os', z.1 = (q.act w).2.toNat) : ∀ (i : Nat) c, (q.go (k : Int) w).calls[i]? = some c → dEnd c ≠ -1 → ∃ y ∈ os', y.1 = i := fun i c hc he => by
  by_cases z : i = (q.act w).2.toNat
  · rw [z]; exact new
  · rcases (S.calls i c).1 hc with ⟨_, y, _⟩ | ⟨_, hc⟩
    · exact absurd y z
    · obtain ⟨y, hy, e⟩ := h.all i c hc he
      obtain ⟨u, hu, e2⟩ := sub y hy (by rw [e]; exact z)
      exact ⟨u, hu, e2.trans e⟩
/-- A call ends, and is put at the end. -/
theorem LN.appd (S : GoS most k q w v m' x N c0) (h : LN most k q os) (xp : x.pc = 0) (row : doL (ctn q.m.cs) (endCall c0 (k : Int) x.code x.value) most = (ctn m'.cs, true)) (hw0 : w = 0 → hand q.m.cs (q.act 0).1 = []) (hh : w ≠ 0 → hand m'.cs (q.act 0).1 = hand q.m.cs (q.act 0).1) (hb : w ≠ 0 → gt m'.cs 1 = gt q.m.cs 1) : LN most (k + 1) (q.go (k : Int) w) (os ++ [((q.act w).2.toNat, k)]) := by
  have nin := S.nin h hw0
  have me := S.me xp
  obtain ⟨p1, p2, p3, p4, p5⟩ := h.put (code := x.code) (v := x.value) S.r1 S.r3 nin (S.bk _ _ S.r1)
  rw [← S.offc xp] at p4 p5
  have one := rw_one (y := ((q.act w).2.toNat, k)) me
  have hand0 : w = 0 → hand m'.cs ((q.go (k : Int) w).act 0).1 = [] := fun w0 => by
    rw [S.act1, if_pos w0.symm]; exact handp (.inl xp)
  have act0 : w ≠ 0 → ((q.go (k : Int) w).act 0) = q.act 0 := fun w0 => by
    have a1 := S.act1 0
    have a2 := S.act2 0
    rw [if_neg (fun z => w0 z.symm)] at a1 a2
    exact Prod.ext a1 a2
  refine ⟨?_, p1, p2, p3, p4, p5, fun y hy c hc he => ?_, fun u hu => ?_, S.vv h, fun k1 hp c1 hc1 => ?_⟩
  · rw [rw_app, S.rw nin, one, S.em]
    exact runR_snoc h.run row
  · rcases List.mem_append.1 hy with hy | hy
    · rcases (S.calls _ _).1 hc with ⟨_, _, rfl⟩ | ⟨_, hc⟩
      · exact absurd (show (k : Int) = -1 from he) (by omega)
      · obtain ⟨a1, a2⟩ := h.only y hy c hc he
        by_cases w0 : w = 0
        · exact absurd (hw0 w0) a2
        · rw [act0 w0, S.em, hh w0]; exact ⟨a1, a2⟩
    · have : y = ((q.act w).2.toNat, k) := by simpa using hy
      rw [this] at hc
      have hc := me.symm.trans hc
      cases hc
      exact absurd (show (k : Int) = -1 from he) (by omega)
  · rw [S.em] at hu
    by_cases w0 : w = 0
    · rw [hand0 w0] at hu; cases hu
    · rw [act0 w0, hh w0] at hu
      obtain ⟨os1, os2, k1, zs, f1, f2, f3, f4⟩ := h.pop u hu
      have hbb := hb w0
      refine ⟨os1, os2 ++ [((q.act w).2.toNat, k)], k1, zs, by rw [act0 w0, f1]; simp, ?_, ?_, fun j j0 hj hl ht => ?_⟩
      · rw [S.rw fun y hy => nin y (by rw [f1]; exact List.mem_append_left _ hy)]; exact f2
      · rw [rw_app, S.rw fun y hy => nin y (by rw [f1]; exact List.mem_append_right _ (List.mem_cons_of_mem _ hy)), one, S.em]
        exact runR_snoc f3 row
      · rw [S.alen] at hj
        rw [S.em] at ht ⊢
        obtain ⟨y1, y2, y3⟩ := S.lates j0 hj hl hbb ht
        rw [y2, y3, hbb]
        rw [y2, hbb] at ht
        obtain ⟨b1, b2⟩ := f4 j j0 hj y1 ht
        refine ⟨b1, fun c hc => ?_⟩
        obtain ⟨c', hc', e⟩ := S.beg hc
        rw [e]; exact b2 c' hc'
  · by_cases w0 : w = 0
    · subst w0
      rw [S.act1, if_pos rfl] at hp
      omega
    · rw [act0 w0] at k1 hp hc1 ⊢
      have hr0 : 0 ≤ (q.act 0).2 := by
        rcases Int.lt_or_le (q.act 0).2 0 with z | z
        · have := (S.pi.run 0 S.pi.pos).1 z; omega
        · exact z
      rcases (S.calls _ _).1 hc1 with ⟨_, z, _⟩ | ⟨_, hc1⟩
      · exact absurd z (S.idx 0 S.pi.pos hr0 (fun z => w0 z.symm))
      obtain ⟨os1, os2, k0, ys, f1, f2, f3, f4, f5, f6, f7, f8⟩ := h.full k1 hp c1 hc1
      refine ⟨os1, os2 ++ [((q.act w).2.toNat, k)], k0, ys, by rw [f1]; simp, ?_, ?_, f4, f5, fun y hy => ?_, f7, Nat.lt_succ_of_lt f8⟩
      · rw [S.rw fun y hy => nin y (by rw [f1]; exact List.mem_append_left _ hy)]; exact f2
      · rw [rw_app, S.rw fun y hy => nin y (by rw [f1]; exact List.mem_append_right _ hy), one, S.em]
        exact runR_snoc f3 row
      · rcases List.mem_append.1 hy with hy | hy
        · exact f6 y hy
        · have : y = ((q.act w).2.toNat, k) := by simpa using hy
          rw [this]; exact Nat.le_of_lt f8
/-- A pop takes its element in its hand. -/
theorem LN.low (S : GoS most k q w v m' x N c0) (h : LN most k q os) (w0 : w = 0) (xp : x.pc ≠ 0) (k2 : (q.act 0).1.kind = 2) (h0 : hand q.m.cs (q.act 0).1 = []) {u : Int} (hu : hand m'.cs x = [u]) (hc : ctn q.m.cs = ctn m'.cs ++ [u]) (ht : gt m'.cs 0 = gt q.m.cs 0) : LN most (k + 1) (q.go (k : Int) w) (os ++ [((q.act w).2.toNat, k)]) := by
  subst w0
  have nin := S.nin h (fun _ => h0)
  have ec := S.onc xp
  have k1 : dKind c0 = 1 := by have := S.r4; omega
  have one : rw' q.calls [((q.act 0).2.toNat, k)] = [c0] := rw_one S.r1
  have a1 : ((q.go (k : Int) 0).act 0).1 = x := by rw [S.act1, if_pos rfl]
  have a2 : ((q.go (k : Int) 0).act 0).2 = (q.act 0).2 := by rw [S.act2, if_pos rfl, if_neg xp]
  have r := S.r1
  refine ⟨?_, ?_, ?_, fun y hy => ?_, fun y hy => ?_, fun i c hcc he => ?_, fun y hy c hcc he => ?_, fun u' hu' => ?_, S.vv h, fun kk => ?_⟩
  · rw [ec, rw_app, one, S.em]
    exact runR_snoc h.run (by rw [hc]; exact doL_pop k1 (.inl S.c00))
  · rw [List.map_append, List.nodup_append]
    refine ⟨h.nd, by simp, fun a ha b hb => ?_⟩
    obtain ⟨y, hy, rfl⟩ := List.mem_map.1 ha
    have : b = (q.act 0).2.toNat := by simpa using hb
    rw [this]; exact nin y hy
  · rw [List.pairwise_append]
    refine ⟨h.srt, by simp, fun a ha b hb => ?_⟩
    have : b = ((q.act 0).2.toNat, k) := by simpa using hb
    rw [this]; exact Nat.le_of_lt (h.pk a ha)
  · rcases List.mem_append.1 hy with hy | hy
    · exact Nat.lt_succ_of_lt (h.pk y hy)
    · have : y = ((q.act 0).2.toNat, k) := by simpa using hy
      rw [this]; exact Nat.lt_succ_self k
  · rw [ec]
    rcases List.mem_append.1 hy with hy | hy
    · exact h.ok y hy
    · have : y = ((q.act 0).2.toNat, k) := by simpa using hy
      rw [this]
      exact ⟨c0, r, S.bk _ _ r, .inr S.r3⟩
  · rw [ec] at hcc
    obtain ⟨y, hy, e⟩ := h.all i c hcc he
    exact ⟨y, List.mem_append_left _ hy, e⟩
  · rw [ec] at hcc
    rcases List.mem_append.1 hy with hy | hy
    · exact absurd h0 (h.only y hy c hcc he).2
    · have : y = ((q.act 0).2.toNat, k) := by simpa using hy
      rw [a2, S.em, a1, hu, this]
      exact ⟨by have := S.hr; show _ = (((q.act 0).2.toNat : Nat) : Int); omega, List.cons_ne_nil _ _⟩
  · rw [S.em, a1, hu] at hu'
    cases hu'
    refine ⟨os, [], k, ctn m'.cs, by rw [a2], ?_, ?_, fun j j0 hj hl hge => ?_⟩
    · rw [ec, ← hc]; exact h.run
    · rw [S.em]; rfl
    · rw [S.alen] at hj
      rw [S.em] at hge ⊢
      rw [S.act1, if_neg j0] at hl hge ⊢
      rw [S.act2, if_neg j0, ec]
      refine ⟨?_, fun c hc => S.bk _ _ hc⟩
      have tt : (q.act j).1.t ≤ gt q.m.cs 0 := by
        cases S.pi.th j (by omega) hj with
        | st3 _ _ _ t | st4 _ _ _ t | st12 _ _ _ t | st13 _ _ _ t => exact t
        | idle p | st2 _ p | st1 _ p | lk2 _ p | lk1 _ p => unfold late at hl; omega
      have hbb : gt m'.cs 0 ≤ gt m'.cs 1 := by
        have pi' := S.r.pi
        have tb := pi'.dg.tb
        have hos := pi'.os
        rw [S.em, a1] at tb hos
        have kx : x.kind = 2 := by rw [S.kx.1]; exact k2
        have hne : hand m'.cs x ≠ [] := by rw [hu]; exact List.cons_ne_nil _ _
        cases hos with
        | idle p => exact absurd p xp
        | pu1 k' p | pu2 k' p | pu3 k' p | pu4 k' p | pu5 k' p | pu6 k' p | pu7 k' p | pu8 k' p | pu9 k' p | pu10 k' p | pu11 k' p => omega
        | po1 k' p => exact absurd (handp (.inr (.inl p))) hne
        | po3 k' p => exact absurd (handp (.inr (.inr (.inl p)))) hne
        | po11 k' p i => exact absurd (handp (.inr (.inr (.inr ⟨p, i⟩)))) hne
        | po2 k' p i w' b | po4 k' p i w' b | po12 k' p i w' b | po13 k' p i w' b =>
          rw [hand2 k' (by omega)] at hne
          by_cases z : gt m'.cs 0 ≤ x.b
          · omega
          · rw [if_neg z] at hne; exact absurd rfl hne
        | pe k' p i w' b t tt =>
          rw [hand11 k' p i, if_neg (by rw [w']; decide)] at hne; exact absurd rfl hne
        | pf k' p11 i b t tt =>
          exfalso
          have hxe := S.r.ex
          have hne2 : (q.act 0).1.pc = 13 := by
            have h1 : ((q.act 0).1.after v).pc = 11 := by rw [← hxe]; exact p11
            have h2 : ((q.act 0).1.after v).i = 1 := by rw [← hxe]; exact i
            cases S.pi.os with
            | idle p => exact absurd p S.pc
            | pu1 k' p | pu2 k' p | pu3 k' p | pu4 k' p | pu5 k' p | pu6 k' p | pu7 k' p | pu8 k' p | pu9 k' p | pu10 k' p | pu11 k' p => omega
            | po13 k' p => exact p
            | po2 k' p i' w' b' a' =>
              exfalso
              unfold DOp.after DOp.popped at hxe
              rw [if_neg (by omega), if_pos k', if_neg (by omega), if_neg (by omega), if_neg (by omega), if_pos p] at hxe
              by_cases z : (q.act 0).1.b < v
              · rw [if_pos z] at hxe
                rw [hxe] at b t tt
                have b : (q.act 0).1.b = gt m'.cs 1 := b
                have t : v = (q.act 0).1.b := t
                omega
              · rw [if_neg z] at hxe; rw [hxe] at p11; have p11 : (4 : Int) = 11 := p11; omega
            | po1 k' p i' w' => exfalso; unfold DOp.after DOp.popped at h2; rw [if_neg (by omega), if_pos k', if_pos p] at h2; have h2 : (q.act 0).1.i = 1 := h2; omega
            | po3 k' p i' => exfalso; unfold DOp.after DOp.popped at h2; rw [if_neg (by omega), if_pos k', if_neg (by omega), if_pos p] at h2; have h2 : (q.act 0).1.i = 1 := h2; omega
            | po11 k' p i' => exfalso; unfold DOp.after DOp.popped at h1; rw [if_neg (by omega), if_pos k', if_neg (by omega), if_neg (by omega), if_pos p, if_pos i'] at h1; have h1 : (2 : Int) = 11 := h1; omega
            | po4 k' p => exfalso; unfold DOp.after DOp.popped at h1; rw [if_neg (by omega), if_pos k', if_neg (by omega), if_neg (by omega), if_neg (by omega), if_neg (by omega), if_pos p] at h1; revert h1; split <;> (intro h1; first | (have h1 : (12 : Int) = 11 := h1; omega) | (have h1 : (0 : Int) = 11 := h1; omega))
            | po12 k' p => exfalso; unfold DOp.after DOp.popped at h1; rw [if_neg (by omega), if_pos k', if_neg (by omega), if_neg (by omega), if_neg (by omega), if_neg (by omega), if_neg (by omega), if_pos p] at h1; revert h1; split <;> (intro h1; first | (have h1 : (13 : Int) = 11 := h1; omega) | (have h1 : (0 : Int) = 11 := h1; omega))
            | pe k' p i' w' | pf k' p i' =>
              exfalso
              unfold DOp.after DOp.popped at h1
              rw [if_neg (by omega), if_pos k', if_neg (by omega), if_neg (by omega), if_pos p, if_neg (by omega)] at h1
              revert h1; split <;> (intro h1; have h1 : (0 : Int) = 11 := h1; omega)
          have h3 : hand q.m.cs (q.act 0).1 = [] := h0
          cases S.pi.os with
          | idle p => exact absurd p S.pc
          | pu1 k' p | pu2 k' p | pu3 k' p | pu4 k' p | pu5 k' p | pu6 k' p | pu7 k' p | pu8 k' p | pu9 k' p | pu10 k' p | pu11 k' p => omega
          | po1 k' p | po3 k' p | po11 k' p | po2 k' p | po4 k' p | po12 k' p | pe k' p | pf k' p => omega
          | po13 k' p' i' w' b' t0 t' tb' xx =>
            have hcas : gt q.m.cs 0 = (q.act 0).1.t → False := fun z => by
              rw [hand2 k' (by omega), if_pos (by omega)] at h3; cases h3
            have hcs := ctn_nil (cs := q.m.cs) (by
              have h4 : ¬ gt q.m.cs 0 ≤ (q.act 0).1.b := fun z => by rw [hand2 k' (by omega), if_pos z] at h3; cases h3
              omega)
            rw [hc] at hcs
            exact absurd hcs (by simp)
      have hcl := ctn_len m'.cs
      omega
  · rw [a1] at kk
    have := S.kx.1
    omega
/-- A push finds the deque full. -/
theorem LN.fulls (S : GoS most k q w v m' x N c0) (h : LN most k q os) (w0 : w = 0) (xp : x.pc = 0) (k1 : (q.act 0).1.kind = 1) (p4 : (q.act 0).1.pc = 4) (co : x.code = 3) (fb : (q.act 0).1.b - (q.act 0).1.t = most) (hc : ctn m'.cs = ctn q.m.cs) : ∃ os', LN most (k + 1) (q.go (k : Int) w) os' := by
  subst w0
  have nin := S.nin h (fun _ => hand1 k1)
  have me := S.me xp
  have a1 : ((q.go (k : Int) 0).act 0).1 = x := by rw [S.act1, if_pos rfl]
  have hand' : hand m'.cs x = [] := handp (.inl xp)
  obtain ⟨os1, os2, k0, ys, f1, f2, f3, f4, f5, f6, f7, f8⟩ := h.full k1 (.inr p4) c0 S.r1
  subst f1
  refine ⟨os1 ++ ((q.act 0).2.toNat, k0) :: os2, ?_, ins_nodup h.nd nin, ins_pairwise h.srt f5 f6, fun y hy => ?_, fun y hy => ?_, ?_, fun y hy c hc' he => ?_, fun u hu => ?_, S.vv h, fun kk hp => ?_⟩
  · rw [rw_app, rw_cons, S.rw fun y hy => nin y (List.mem_append_left _ hy), S.rw fun y hy => nin y (List.mem_append_right _ hy), me, S.em, hc, runR_app f2]
    show runR most (endCall c0 (k : Int) x.code x.value :: rw' q.calls os2) ys = _
    rw [runR_cons (doL_full (show x.code = 3 from co) (by rw [f4]; exact fb))]
    exact f3
  · rcases List.mem_append.1 hy with hy | hy
    · exact Nat.lt_succ_of_lt (h.pk y (List.mem_append_left _ hy))
    · rcases List.mem_cons.1 hy with rfl | hy
      · exact Nat.lt_succ_of_lt f8
      · exact Nat.lt_succ_of_lt (h.pk y (List.mem_append_right _ hy))
  · rcases List.mem_append.1 hy with hy | hy
    · exact S.ok h xp (List.mem_append_left _ hy)
    · rcases List.mem_cons.1 hy with rfl | hy
      · exact ⟨_, me, f7, .inl (show (k0 : Int) ≤ (k : Int) by omega)⟩
      · exact S.ok h xp (List.mem_append_right _ hy)
  · refine S.all h (fun y hy _ => ⟨y, ?_, rfl⟩) ⟨_, List.mem_append_right _ (List.mem_cons_self ..), rfl⟩
    rcases List.mem_append.1 hy with hy | hy
    · exact List.mem_append_left _ hy
    · exact List.mem_append_right _ (List.mem_cons_of_mem _ hy)
  · rcases (S.calls _ _).1 hc' with ⟨_, _, rfl⟩ | ⟨z, hc'⟩
    · exact absurd (show (k : Int) = -1 from he) (by omega)
    · have hin : y ∈ os1 ++ os2 := by
        rcases List.mem_append.1 hy with hy | hy
        · exact List.mem_append_left _ hy
        · rcases List.mem_cons.1 hy with rfl | hy
          · exact absurd rfl (z.resolve_left (fun z => z xp))
          · exact List.mem_append_right _ hy
      exact absurd (hand1 k1) (h.only y hin c hc' he).2
  · rw [S.em, a1, hand'] at hu; cases hu
  · rw [a1] at hp; omega
/-- A pop has got what it has in its hand. -/
theorem LN.gots (S : GoS most k q w v m' x N c0) (h : LN most k q os) (w0 : w = 0) (xp : x.pc = 0) (k2 : (q.act 0).1.kind = 2) (co : x.code = 4) (hu : hand q.m.cs (q.act 0).1 = [x.value]) (hc : ctn m'.cs = ctn q.m.cs) : LN most (k + 1) (q.go (k : Int) w) os := by
  subst w0
  have me := S.me xp
  have a1 : ((q.go (k : Int) 0).act 0).1 = x := by rw [S.act1, if_pos rfl]
  have hand' : hand m'.cs x = [] := handp (.inl xp)
  obtain ⟨os1, os2, k1, zs, f1, f2, f3, f4⟩ := h.pop _ hu
  have nd := h.nd
  rw [f1, List.map_append, List.map_cons, List.nodup_append] at nd
  have n1 : ∀ y ∈ os1, y.1 ≠ (q.act 0).2.toNat := fun y hy => nd.2.2 _ (List.mem_map_of_mem hy) _ (List.mem_cons_self ..)
  have n2 : ∀ y ∈ os2, y.1 ≠ (q.act 0).2.toNat := fun y hy e => (List.nodup_cons.1 nd.2.1).1 (List.mem_map.2 ⟨y, hy, e⟩)
  have kk1 : dKind c0 = 1 := by have := S.r4; omega
  refine ⟨?_, h.nd, h.srt, fun y hy => Nat.lt_succ_of_lt (h.pk y hy), fun y hy => S.ok h xp hy, ?_, fun y hy c hc' he => ?_, fun u hu => ?_, S.vv h, fun kk hp => ?_⟩
  · rw [f1, rw_app, rw_cons, S.rw n1, S.rw n2, me, S.em, hc, runR_app f2]
    show runR most (endCall c0 (k : Int) x.code x.value :: rw' q.calls os2) (zs ++ [x.value]) = _
    rw [runR_cons (doL_pop (v := x.value) (show dKind (endCall c0 (k : Int) x.code x.value) = 1 from kk1) (.inr ⟨co, rfl⟩))]
    exact f3
  · exact S.all h (fun y hy _ => ⟨y, hy, rfl⟩) ⟨((q.act 0).2.toNat, k1), by rw [f1]; exact List.mem_append_right _ (List.mem_cons_self ..), rfl⟩
  · rcases (S.calls _ _).1 hc' with ⟨_, _, rfl⟩ | ⟨z, hc'⟩
    · exact absurd (show (k : Int) = -1 from he) (by omega)
    · have := (h.only y hy c hc' he).1
      exact absurd (show y.1 = (q.act 0).2.toNat by omega) (z.resolve_left (fun z => z xp))
  · rw [S.em, a1, hand'] at hu; cases hu
  · rw [a1] at hp; omega
/-- A thief has got what a pop had in its hand. -/
theorem LN.limbo (S : GoS most k q w v m' x N c0) (h : LN most k q os) (w0 : w ≠ 0) (xp : x.pc = 0) (hk : dKind c0 = 2) (co : x.code = 4) (hl : late (q.act w).1) (ht : gt q.m.cs 1 ≤ (q.act w).1.t) (hu : hand q.m.cs (q.act 0).1 = [x.value]) (hu' : hand m'.cs (q.act 0).1 = []) (hc : ctn q.m.cs = []) (hc' : ctn m'.cs = []) : ∃ os', LN most (k + 1) (q.go (k : Int) w) os' := by
  have me := S.me xp
  have nin := S.nin h (fun z => absurd z w0)
  have act0 : ((q.go (k : Int) w).act 0) = q.act 0 := by
    have a1 := S.act1 0
    have a2 := S.act2 0
    rw [if_neg (fun z => w0 z.symm)] at a1 a2
    exact Prod.ext a1 a2
  obtain ⟨os1, os2, k1, zs, f1, f2, f3, f4⟩ := h.pop _ hu
  obtain ⟨g1, g2⟩ := f4 w w0 S.hw hl ht
  have hz : zs = [] := List.eq_nil_of_length_eq_zero (by omega)
  subst hz
  have g2 := g2 c0 S.r1
  have nd := h.nd
  rw [f1, List.map_append, List.map_cons, List.nodup_append] at nd
  have n1 : ∀ y ∈ os1, y.1 ≠ (q.act 0).2.toNat := fun y hy => nd.2.2 _ (List.mem_map_of_mem hy) _ (List.mem_cons_self ..)
  have n2 : ∀ y ∈ os2, y.1 ≠ (q.act 0).2.toNat := fun y hy e => (List.nodup_cons.1 nd.2.1).1 (List.mem_map.2 ⟨y, hy, e⟩)
  have i1 : ∀ y ∈ os1, y ∈ os := fun y hy => by rw [f1]; exact List.mem_append_left _ hy
  have i2 : ∀ y ∈ os2, y ∈ os := fun y hy => by rw [f1]; exact List.mem_append_right _ (List.mem_cons_of_mem _ hy)
  have ip : ((q.act 0).2.toNat, k1) ∈ os := by rw [f1]; exact List.mem_append_right _ (List.mem_cons_self ..)
  have srt := h.srt
  rw [f1, List.pairwise_append] at srt
  have hkk := h.pk _ ip
  refine ⟨os1 ++ ((q.act w).2.toNat, k1) :: os2, ?_, ins_nodup ?_ ?_, ins_pairwise ?_ ?_ ?_, fun y hy => ?_, fun y hy => ?_, ?_, fun y hy c hcc he => ?_, fun u hu => ?_, S.vv h, fun kk hp => ?_⟩
  · rw [rw_app, rw_cons, S.rw fun y hy => nin y (i1 y hy), S.rw fun y hy => nin y (i2 y hy), me, S.em, hc', runR_app f2]
    show runR most (endCall c0 (k : Int) x.code x.value :: rw' q.calls os2) [x.value] = _
    rw [runR_cons (doL_steal (xs := []) (v := x.value) (show dKind (endCall c0 (k : Int) x.code x.value) = 2 from hk) co rfl)]
    rw [hc] at f3; exact f3
  · rw [List.map_append, List.nodup_append]
    exact ⟨nd.1, (List.nodup_cons.1 nd.2.1).2, fun a ha b hb => nd.2.2 a ha b (List.mem_cons_of_mem _ hb)⟩
  · intro y hy
    rcases List.mem_append.1 hy with hy | hy
    · exact nin y (i1 y hy)
    · exact nin y (i2 y hy)
  · rw [List.pairwise_append]
    exact ⟨srt.1, (List.pairwise_cons.1 srt.2.1).2, fun a ha b hb => srt.2.2 a ha b (List.mem_cons_of_mem _ hb)⟩
  · exact fun y hy => srt.2.2 y hy _ (List.mem_cons_self ..)
  · exact fun y hy => (List.pairwise_cons.1 srt.2.1).1 y hy
  · rcases List.mem_append.1 hy with hy | hy
    · exact Nat.lt_succ_of_lt (h.pk y (i1 y hy))
    · rcases List.mem_cons.1 hy with rfl | hy
      · exact Nat.lt_succ_of_lt hkk
      · exact Nat.lt_succ_of_lt (h.pk y (i2 y hy))
  · rcases List.mem_append.1 hy with hy | hy
    · exact S.ok h xp (i1 y hy)
    · rcases List.mem_cons.1 hy with rfl | hy
      · exact ⟨_, me, g2, .inl (show (k1 : Int) ≤ (k : Int) by have : k1 < k := hkk; omega)⟩
      · exact S.ok h xp (i2 y hy)
  · intro i c hcc he
    by_cases z : i = (q.act w).2.toNat
    · exact ⟨_, List.mem_append_right _ (List.mem_cons_self ..), z.symm⟩
    · rcases (S.calls i c).1 hcc with ⟨_, y, _⟩ | ⟨_, hcc⟩
      · exact absurd y z
      · obtain ⟨y, hy, e⟩ := h.all i c hcc he
        rw [f1] at hy
        rcases List.mem_append.1 hy with hy | hy
        · exact ⟨y, List.mem_append_left _ hy, e⟩
        · rcases List.mem_cons.1 hy with rfl | hy
          · exfalso
            have hr0 : 0 ≤ (q.act 0).2 := by
              rcases Int.lt_or_le (q.act 0).2 0 with z | z
              · have := (S.pi.run 0 S.pi.pos).1 z
                rw [handp (.inl this)] at hu; cases hu
              · exact z
            have e : (q.act 0).2.toNat = i := e
            exact he (S.run0 hr0 (by rw [e]; exact hcc))
          · exact ⟨y, List.mem_append_right _ (List.mem_cons_of_mem _ hy), e⟩
  · rcases (S.calls _ _).1 hcc with ⟨_, _, rfl⟩ | ⟨z, hcc⟩
    · exact absurd (show (k : Int) = -1 from he) (by omega)
    · exfalso
      rcases List.mem_append.1 hy with hy | hy
      · have := (h.only y (i1 y hy) c hcc he).1
        exact n1 y hy (by omega)
      · rcases List.mem_cons.1 hy with rfl | hy
        · exact z.resolve_left (fun z => z xp) rfl
        · have := (h.only y (i2 y hy) c hcc he).1
          exact n2 y hy (by omega)
  · rw [S.em, act0, hu'] at hu; cases hu
  · rw [act0] at kk hp
    rw [hand1 kk] at hu; cases hu
end
end Go.Mx

namespace Go.Mx
theorem hand_ne {cs : List Int} {o : DOp} (h : hand cs o ≠ []) : o.kind = 2 ∧ ((o.pc = 2 ∨ o.pc = 4 ∨ o.pc = 12 ∨ o.pc = 13) ∨ (o.pc = 11 ∧ o.i ≠ 0)) := by
  unfold hand at h
  by_cases z : o.kind = 2 ∧ (o.pc = 2 ∨ o.pc = 4 ∨ o.pc = 12 ∨ o.pc = 13)
  · exact ⟨z.1, .inl z.2⟩
  · rw [if_neg z] at h
    by_cases y : o.kind = 2 ∧ o.pc = 11 ∧ o.i ≠ 0 ∧ o.won = true
    · exact ⟨y.1, .inr ⟨y.2.1, y.2.2.1⟩⟩
    · rw [if_neg y] at h; exact absurd rfl h
section
variable {most : Int} {k : Nat} {q : PS} {w : Nat} {v : Int} {m' : AS} {x : DOp} {N : Int} {c0 : DCl} {os : List (Nat × Nat)}
/-- BOTTOM stays while a pop has something in its hand. -/
theorem GoS.bot (S : GoS most k q w v m' x N c0) (w0 : w = 0) (xp : x.pc ≠ 0) (h : hand q.m.cs (q.act 0).1 ≠ []) : gt m'.cs 1 = gt q.m.cs 1 := by
  subst w0
  obtain ⟨k2, hp⟩ := hand_ne h
  obtain ⟨e, l1, l2, l3⟩ := S.r.log S.pi.wt
  have base := (S.pi.mach 0 S.hw S.pc).1
  rcases hp with (p | p | p | p) | ⟨p, i⟩
  · rw [req2 base p] at l3; rw [l3.2.2]
  · rw [req4 base p] at l3; rw [l3.2.2]
  · rw [req12 base p] at l3; rw [l3.2.2]
  · rw [req13 base p] at l3
    obtain ⟨_, _, hcs⟩ := l3
    have hcs : m'.cs = if gt q.m.cs 0 = (q.act 0).1.t then q.m.cs.set (0 : Int).toNat _ else q.m.cs := hcs
    rw [hcs]
    split
    · exact gt_set_ne (by decide) (by decide) (by decide)
    · rfl
  · exfalso
    have hxe := S.r.ex
    unfold DOp.after DOp.popped at hxe
    rw [if_neg (by omega), if_pos k2, if_neg (by omega), if_neg (by omega), if_pos p, if_neg i] at hxe
    apply xp
    rw [hxe]
    split <;> rfl
theorem LN.go {W : List Nat} {td : List DTd} {most : Int} {k : Nat} {q : PS} {os : List (Nat × Nat)} (h : LN most k q os) (ai : AI W most k q) (hi : HI W td (k + 1) q) {w : Nat} (hw : w < q.acts.length) (hr : 0 ≤ (q.act w).2) {N : Int} (pi : PI most q N) {v : Int} {m' : AS} {x : DOp} (r : GoR most q (k : Int) w v m' x N) : ∃ os', LN most (k + 1) (q.go (k : Int) w) os' := by
  obtain ⟨c0, S⟩ := GoS.mk' ai hi hw hr pi r
  have r4 := S.r4
  have hmost := (pi.mach w hw S.pc).2
  by_cases w0 : w = 0
  · subst w0
    have a1 : ((q.go (k : Int) 0).act 0).1 = x := by rw [S.act1, if_pos rfl]
    cases r.own rfl with
    | same p c hh t => exact ⟨os, h.stay S p c (by rw [a1]; exact hh) (S.bot rfl p)⟩
    | won k1 p c hh t => exact ⟨os, h.stay S p c (by rw [a1]; exact hh) (S.bot rfl p)⟩
    | low k2 p hh c t =>
      cases e : hand m'.cs x with
      | nil =>
        rw [e, List.append_nil] at c
        exact ⟨os, h.stay S p c.symm (by rw [a1, e, hh]) (fun z => absurd hh z)⟩
      | cons u us =>
        have e2 : us = [] := by
          unfold hand at e
          split at e
          · split at e
            · cases e; rfl
            · cases e
          · split at e
            · cases e; rfl
            · cases e
        subst e2
        rw [e] at c
        exact ⟨_, h.low S rfl p k2 hh e c t⟩
    | push k1 p co va c hh hh' t fb p11 =>
      refine ⟨_, h.appd S p ?_ (fun _ => hh) (fun z => absurd rfl z) (fun z => absurd rfl z)⟩
      have hb : (q.act 0).1.b = gt q.m.cs 1 ∧ (q.act 0).1.t ≤ gt q.m.cs 0 := by
        cases pi.os with
        | pu11 _ _ hb _ t => exact ⟨hb, t⟩
        | idle p => omega
        | pu1 k' p | pu2 k' p | pu3 k' p | pu4 k' p | pu5 k' p | pu6 k' p | pu7 k' p | pu8 k' p | pu9 k' p | pu10 k' p => omega
        | po1 k' p | po3 k' p | po11 k' p | po2 k' p | po4 k' p | po12 k' p | po13 k' p | pe k' p | pf k' p => omega
      have hv := h.vv c0 hr k1 S.r1
      rw [c, hv]
      have m1 : 1 ≤ most := by have := pi.dg.c1; have := pi.dg.cm; omega
      refine doL_push (c := endCall c0 (k : Int) x.code x.value) (show dKind c0 = 0 by omega) co ?_
      rw [ctn_len]
      omega
    | full k1 p co va c hh hh' t fb fc bb t0 p4 => exact h.fulls S rfl p k1 p4 co (by omega) c
    | got k2 p co c hh hh' t tb => exact ⟨os, h.gots S rfl p k2 co hh c⟩
    | empty k2 p co va c hh hh' t tb p11 i1 =>
      have hn : ctn q.m.cs = [] := by
        cases pi.os with
        | pe _ _ _ _ b t tt => exact ctn_nil (by omega)
        | pf _ _ _ b t tt => exact ctn_nil (by omega)
        | po11 k' p i => omega
        | idle p => omega
        | pu1 k' p | pu2 k' p | pu3 k' p | pu4 k' p | pu5 k' p | pu6 k' p | pu7 k' p | pu8 k' p | pu9 k' p | pu10 k' p | pu11 k' p => omega
        | po1 k' p | po3 k' p | po2 k' p | po4 k' p | po12 k' p | po13 k' p => omega
      exact ⟨_, h.appd S p (by rw [c, hn]; exact doL_empty co) (fun _ => hh) (fun z => absurd rfl z) (fun z => absurd rfl z)⟩
  · have a1 : ((q.go (k : Int) w).act 0).1 = (q.act 0).1 := by rw [S.act1, if_neg (fun z => w0 z.symm)]
    have k3 := pi.kind w (by omega) hw S.pc
    cases r.thief w0 with
    | same p c => exact ⟨os, h.stay S p (by rw [c]) (by rw [a1, c]) (fun _ => by rw [c])⟩
    | empty k' p co va c b t =>
      have hn : ctn q.m.cs = [] := ctn_nil (by omega)
      exact ⟨_, h.appd S p (by rw [c, hn]; exact doL_empty co) (fun z => absurd z w0) (fun _ => by rw [c]) (fun _ => by rw [c])⟩
    | lost k' p co va c t => exact ⟨_, h.appd S p (by rw [c]; exact doL_lost co) (fun z => absurd z w0) (fun _ => by rw [c]) (fun _ => by rw [c])⟩
    | look k' => omega
    | got k' p co va t t' b' c =>
      rcases c with ⟨c1, c2⟩ | ⟨c1, c2, c3, c4⟩
      · refine ⟨_, h.appd S p ?_ (fun z => absurd z w0) (fun _ => c2) (fun _ => b')⟩
        rw [c1]
        exact doL_steal (c := endCall c0 (k : Int) x.code x.value) (show dKind c0 = 2 by omega) co rfl
      · have hlt : gt q.m.cs 1 ≤ gt q.m.cs 0 := by
          have := ctn_len q.m.cs
          rw [c1] at this
          have : (0 : Nat) = (gt q.m.cs 1 - gt q.m.cs 0).toNat := this
          omega
        have hl : late (q.act w).1 := by
          have hxe := r.ex
          cases pi.th w (by omega) hw with
          | idle p => exact absurd p S.pc
          | st2 _ p' => exfalso; unfold DOp.after DOp.stolen at hxe; rw [if_neg (by omega), if_neg (by omega), if_pos k3, if_pos p'] at hxe; rw [hxe] at p; exact absurd (show (1 : Int) = 0 from p) (by decide)
          | st1 _ p' t0 t1 =>
            exfalso
            unfold DOp.after DOp.stolen at hxe
            rw [if_neg (by omega), if_neg (by omega), if_pos k3, if_neg (by omega), if_pos p'] at hxe
            by_cases z : v ≤ (q.act w).1.t
            · rw [if_pos z] at hxe; rw [hxe] at co; exact absurd (show (5 : Int) = 4 from co) (by decide)
            · rw [if_neg z] at hxe; rw [hxe] at p; exact absurd (show (3 : Int) = 0 from p) (by decide)
          | st3 _ p' => exact .inl p'
          | st4 _ p' => exact .inr (.inl p')
          | st12 _ p' => exact .inr (.inr (.inl p'))
          | st13 _ p' => exact .inr (.inr (.inr p'))
          | lk2 k' => omega
          | lk1 k' => omega
        exact h.limbo S w0 p (by omega) co hl (by omega) c3 c4 c1 c2
end
theorem ps0_ctn {low most thieves : Int} {todos : List DTd} (hc : CapE low most) (ht : 0 ≤ thieves) : ctn (ps0 low most todos thieves).m.cs = [] := by
  have pi := ps0_pi (todos := todos) hc ht
  have p0 : ((ps0 low most todos thieves).act 0).1.pc = 0 := by
    have e : (ps0 low most todos thieves).act 0 = (DOp.zero, (-1 : Int)) := by
      show (List.replicate (1 + thieves).toNat (DOp.zero, (-1 : Int)))[0]?.getD (DOp.zero, -1) = _
      rw [List.getElem?_replicate]
      split <;> rfl
    rw [e]; rfl
  have h1 := pi.dg.t0
  have h2 := pi.dg.bn
  rw [Bl_up (lowp (.inl p0))] at h2
  exact ctn_nil (by omega)
/-- At each pick there is an order. -/
theorem stN_ln {low most thieves : Int} {todos : List DTd} {picks : List Int} (hj : judgeE low most todos thieves picks = 0) {k : Nat} (hk : k ≤ picks.length) : ∃ os, LN most k (stN low most todos thieves picks k) os := by
  refine stN_ind hj (P := fun k p => ∃ os, LN most k p os) ?_ (fun k w a ⟨os, h⟩ e es => ⟨os, h.run, h.nd, h.srt, fun y hy => Nat.lt_succ_of_lt (h.pk y hy), h.ok, h.all, h.only, h.pop, h.vv, fun k1 hp c0 hc => ?_⟩) (fun k w q v m' x a ⟨os, h⟩ aq r _ => ?_) hk
  · have ea : ∀ w, ((ps0 low most todos thieves).act w).1 = DOp.zero := fun w => by
      show ((List.replicate (1 + thieves).toNat (DOp.zero, (-1 : Int)))[w]?.getD (DOp.zero, -1)).1 = _
      rw [List.getElem?_replicate]
      split <;> rfl
    have hc : ctn (ps0 low most todos thieves).m.cs = [] := by
      obtain ⟨j1, hp, hc, ht, j5, htd⟩ := judge_ok hj
      have := ps0_ctn (todos := todos) hc ht
      exact this
    refine ⟨[], by rw [hc]; rfl, List.nodup_nil, List.Pairwise.nil, fun y hy => (by cases hy), fun y hy => (by cases hy), fun i c hc => (by cases hc), fun y hy => (by cases hy), fun u hu => ?_, fun c hr hk => ?_, fun hk => ?_⟩
    · rw [ea, handp (.inl rfl)] at hu; cases hu
    · rw [ea] at hk; exact absurd (show (0 : Int) = 1 from hk) (by decide)
    · rw [ea] at hk; exact absurd (show (0 : Int) = 1 from hk) (by decide)
  · obtain ⟨os1, os2, k0, ys, f1, f2, f3, f4, f5, f6, f7, f8⟩ := h.full k1 hp c0 hc
    exact ⟨os1, os2, k0, ys, f1, f2, f3, f4, f5, f6, f7, Nat.lt_succ_of_lt f8⟩
  · exact (h.pre (by rw [a.al]; exact a.wl) a.pi aq.pre).go aq.ai aq.hi (aq.wl a) aq.run aq.pi r
end Go.Mx
