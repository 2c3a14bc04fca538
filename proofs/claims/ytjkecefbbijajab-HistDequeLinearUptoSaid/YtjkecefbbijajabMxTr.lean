/-
  Plays are linearizable: what the order is, for the laws.
  What is left behind the calls in any legal order.
  HistDequeLinear and HistDequeRest: the walks.
-/
import Derived.Test.YtjkecefbbijajabMxTj
import Derived.Test.YtjkecefbbijajabMxHa
import Derived.Test.YtjkecefbbijajabMxTe
set_option linter.unusedVariables false
set_option linter.unusedSimpArgs false
set_option linter.unusedSectionVars false
namespace Go.Mx

def rowsI (cs : List DCl) (os : List Int) : List DCl := os.map fun k => (cs[k.toNat]?).getD dflt
theorem steps_run {cs : List DCl} {most : Int} {os : List Int} : ∀ {n : Nat} {xs : List Int}, StepsTo cs most os n xs → runR most (rowsI cs (os.take n)) [] = some xs
  | 0, xs, h => by
    have h : xs = [] := h
    subst h; rfl
  | n + 1, xs, ⟨ys, k, c, a1, a2, a3, a4, a5, a6⟩ => by
    have hl := (List.getElem?_eq_some_iff.1 a2).1
    have e := (List.getElem?_eq_some_iff.1 a2).2
    rw [take_succ' os hl, e]
    show runR most ((os.take n ++ [k]).map _) [] = _
    rw [List.map_append, List.map_singleton, a4]
    exact runR_snoc (steps_run a1) a6
theorem run_steps {cs : List DCl} {most : Int} {os : List Int} (nd : os.Nodup) (hin : ∀ k ∈ os, 0 ≤ k ∧ ∃ c, cs[k.toNat]? = some c) {zs : List Int} (h : runR most (rowsI cs os) [] = some zs) : ∀ {n : Nat}, n ≤ os.length → ∃ xs, StepsTo cs most os n xs ∧ runR most (rowsI cs (os.take n)) [] = some xs
  | 0, _ => ⟨[], rfl, rfl⟩
  | n + 1, hn => by
    obtain ⟨ys, s1, s2⟩ := run_steps nd hin h (n := n) (by omega)
    have hk : os[n]? = some (os[n]'(by omega)) := by simp
    generalize hke : os[n]'(by omega) = k at hk
    obtain ⟨k0, c, hc⟩ := hin k (List.mem_of_getElem? hk)
    have e1 : rowsI cs os = rowsI cs (os.take (n + 1)) ++ rowsI cs (os.drop (n + 1)) := by unfold rowsI; rw [← List.map_append, List.take_append_drop]
    rw [e1] at h
    obtain ⟨xs, h1, h2⟩ := runR_split h
    have e2 : rowsI cs (os.take (n + 1)) = rowsI cs (os.take n) ++ [c] := by
      unfold rowsI
      rw [take_succ' os (by omega), hke, List.map_append, List.map_singleton, hc]; rfl
    refine ⟨xs, ⟨ys, k, c, s1, hk, k0, hc, fun j hj e => ?_, ?_⟩, h1⟩
    · have hj2 := (List.getElem?_eq_some_iff.1 e)
      have := List.pairwise_iff_getElem.1 nd j n hj2.1 (by omega) hj
      exact this (hj2.2.trans hke.symm)
    · rw [e2] at h1
      rw [runR_app s2] at h1
      have h1 : (if (doL ys c most).2 = true then runR most [] (doL ys c most).1 else none) = some xs := h1
      by_cases z : (doL ys c most).2 = true
      · rw [if_pos z] at h1
        have h1 : some (doL ys c most).1 = some xs := h1
        exact Prod.ext (Option.some.inj h1) z
      · rw [if_neg z] at h1; cases h1
theorem steps_nd {cs : List DCl} {most : Int} {os : List Int} : ∀ {n : Nat} {xs : List Int}, StepsTo cs most os n xs → (os.take n).Nodup ∧ ∀ k ∈ os.take n, 0 ≤ k ∧ ∃ c, cs[k.toNat]? = some c
  | 0, xs, _ => ⟨List.nodup_nil, fun k hk => (by cases hk)⟩
  | n + 1, xs, ⟨ys, k, c, a1, a2, a3, a4, a5, a6⟩ => by
    have hl := (List.getElem?_eq_some_iff.1 a2).1
    have e := (List.getElem?_eq_some_iff.1 a2).2
    obtain ⟨n1, n2⟩ := steps_nd a1
    rw [take_succ' os hl, e]
    refine ⟨?_, fun x hx => ?_⟩
    · rw [List.nodup_append]
      refine ⟨n1, by simp, fun a ha b hb => ?_⟩
      have hb : b = k := by simpa using hb
      subst hb
      intro ab
      subst ab
      obtain ⟨j, hj⟩ := List.mem_iff_getElem?.1 ha
      rw [List.getElem?_take] at hj
      split at hj
      · rename_i hjn; exact a5 j hjn hj
      · cases hj
    · rcases List.mem_append.1 hx with hx | hx
      · exact n2 x hx
      · have : x = k := by simpa using hx
        rw [this]; exact ⟨a3, c, a4⟩

/-! ### a legal order -/
abbrev osI (os : List (Nat × Nat)) : List Int := os.map fun x => (x.1 : Int)
theorem osI_rows (cs : List DCl) (os : List (Nat × Nat)) : rowsI cs (osI os) = rw' cs os := by
  unfold rowsI rw' osI
  rw [List.map_map]; rfl
theorem LN.legal {most : Int} {k : Nat} {p : PS} {os : List (Nat × Nat)} (h : LN most k p os) : LegalL p.calls most (osI os) ∧ StepsTo p.calls most (osI os) (osI os).length (ctn p.m.cs) := by
  have nd : (osI os).Nodup := by
    have e : osI os = (os.map (·.1)).map (fun n : Nat => (n : Int)) := by unfold osI; rw [List.map_map]; rfl
    rw [e]
    exact List.Pairwise.map _ (fun a b (ne : a ≠ b) (q : (a : Int) = (b : Int)) => ne (by omega)) h.nd
  have hin : ∀ k ∈ osI os, 0 ≤ k ∧ ∃ c, p.calls[k.toNat]? = some c := fun k hk => by
    obtain ⟨x, hx, rfl⟩ := List.mem_map.1 hk
    obtain ⟨c, hc, _⟩ := h.ok x hx
    exact ⟨by omega, c, by rw [Int.toNat_natCast]; exact hc⟩
  have hr : runR most (rowsI p.calls (osI os)) [] = some (ctn p.m.cs) := by rw [osI_rows]; exact h.run
  obtain ⟨xs, s1, s2⟩ := run_steps nd hin hr (Nat.le_refl _)
  rw [List.take_length, hr] at s2
  cases s2
  refine ⟨⟨⟨_, s1⟩, fun a b ka kb x y hab hb ea eb ex ey => ?_, fun i c hi hc he => ?_⟩, s1⟩
  · have ha' : a < os.length := by have := (List.getElem?_eq_some_iff.1 ea).1; simpa using this
    have hb' : b < os.length := by have := (List.getElem?_eq_some_iff.1 eb).1; simpa using this
    have e1 : ((os[a].1 : Nat) : Int) = ka := by have := (List.getElem?_eq_some_iff.1 ea).2; simpa using this
    have e2 : ((os[b].1 : Nat) : Int) = kb := by have := (List.getElem?_eq_some_iff.1 eb).2; simpa using this
    subst e1; subst e2
    rw [Int.toNat_natCast] at ex ey
    have hs := List.pairwise_iff_getElem.1 h.srt a b ha' hb' hab
    obtain ⟨c1, g1, g2, g3⟩ := h.ok os[a] (List.getElem_mem ha')
    obtain ⟨c2, g4, g5, g6⟩ := h.ok os[b] (List.getElem_mem hb')
    rw [ex] at g1; cases g1
    rw [ey] at g4; cases g4
    rintro ⟨z1, z2⟩
    have z1 : 0 ≤ dEnd y := z1
    have z2 : dEnd y < dBeg x := z2
    omega
  · have he : 0 ≤ dEnd c := he
    obtain ⟨y, hy, e⟩ := h.all i c hc (by omega)
    obtain ⟨j, hj⟩ := List.mem_iff_getElem?.1 hy
    exact ⟨j, by rw [List.getElem?_map, hj, ← e]; rfl⟩

/-! ### the history -/
theorem PF.hist {W : List Nat} {todos : List DTd} {thieves most : Int} {n : Nat} {p : PS} (pf : PF W todos thieves most n p) (h3 : thieves ≤ 3) (h0 : 0 ≤ thieves) (htd : ∀ t ∈ todos, t.1 = 0 ∨ t.1 = 1) (cd : ∀ (i : Nat) c, p.calls[i]? = some c → dEnd c ≠ -1 → May (dKind c) (dCode c)) : HistN p.calls p.calls.length := by
  intro i b hi hb
  refine ⟨?_, fun j a hj ha => ?_⟩
  · obtain ⟨w, bg, q1, q2, q3, q4, q5, q6⟩ := pf.hi.c1 i b hb
    have hal := pf.al
    have hk0 : w = 0 → dKind b = 0 ∨ dKind b = 1 := fun w0 => by
      obtain ⟨dn, d1, d2⟩ := pf.hi.tds
      have hm : b ∈ p.calls.filter ownC := List.mem_filter.2 ⟨List.mem_of_getElem? hb, decide_eq_true (by omega)⟩
      have hm2 : (dKind b, dArg b) ∈ dn.map askOf := by rw [← d2]; exact List.mem_map.2 ⟨b, hm, rfl⟩
      obtain ⟨t, ht, et⟩ := List.mem_map.1 hm2
      have := htd t (by rw [d1]; exact List.mem_append_left _ ht)
      have e : t.1 = dKind b := congrArg Prod.fst et
      rw [← e]; exact this
    show SoundI (dWho b) (dKind b) (dBeg b) (dEnd b) (dCode b)
    refine ⟨by omega, by omega, fun z => hk0 (by omega), fun z => q6 (by omega), ?_⟩
    rcases pf.hi.c2 i b hb with ⟨z1, z2, _⟩ | ⟨e, z1, z2, _, _, z3, _⟩
    · exact .inl ⟨z2, z1⟩
    · exact .inr ⟨z3, by omega, cd i b hb (by omega)⟩
  · rintro ⟨z1, z2⟩
    have z1 : dWho a = dWho b := z1
    have z2 : dEnd a = -1 ∨ dBeg b ≤ dEnd a := z2
    have := pf.hi.seq j i a b hj ha hb z1
    omega
/-- What a call answers. -/
theorem stN_may {low most thieves : Int} {todos : List DTd} {picks : List Int} (hj : judgeE low most todos thieves picks = 0) {k : Nat} (hk : k ≤ picks.length) : ∀ (i : Nat) c, (stN low most todos thieves picks k).calls[i]? = some c → dEnd c ≠ -1 → May (dKind c) (dCode c) := by
  refine stN_ind hj (P := fun k p => ∀ (i : Nat) c, p.calls[i]? = some c → dEnd c ≠ -1 → May (dKind c) (dCode c)) (fun i c h => (by cases h)) (fun k w a h _ _ => h) (fun k w q v m' x a h aq r _ => ?_) hk
  have hq : ∀ (i : Nat) c, q.calls[i]? = some c → dEnd c ≠ -1 → May (dKind c) (dCode c) := fun i c hc he => by
    have key : ∀ y, q.calls = (stN low most todos thieves picks k).calls ++ [y] → dEnd y = -1 → May (dKind c) (dCode c) := fun y ec hy => by
      rw [ec] at hc
      rcases getElem?_snoc hc with ⟨_, hc⟩ | ⟨_, rfl⟩
      · exact h i c hc he
      · exact absurd hy he
    cases pre_cases aq.pre with
    | on _ eq => subst eq; exact h i c hc he
    | push w0 h1 t ts et k1 eq => exact key _ (by rw [eq]) rfl
    | pop w0 h1 t ts et k1 eq => exact key _ (by rw [eq]) rfl
    | steal w0 h1 eq => exact key _ (by rw [eq]) rfl
  obtain ⟨c0, S⟩ := GoS.mk' aq.ai aq.hi (aq.wl a) aq.run aq.pi r
  intro i c hc he
  rcases (S.calls i c).1 hc with ⟨xp, rfl, rfl⟩ | ⟨_, hc⟩
  · have r4 := S.r4
    show May (dKind c0) x.code
    unfold May
    by_cases w0 : w = 0
    · subst w0
      cases r.own rfl with
      | same p => exact absurd xp p
      | low _ p => exact absurd xp p
      | won _ p => exact absurd xp p
      | push k1 p co => omega
      | full k1 p co => omega
      | got k1 p co => omega
      | empty k1 p co => omega
    · cases r.thief w0 with
      | same p => exact absurd xp p
      | empty k' p co => omega
      | lost k' p co => omega
      | got k' p co => omega
      | look k' => have := S.pi.kind w (by omega) S.hw S.pc; omega
  · exact hq i c hc he

/-! ### how many calls there are -/
def fE (c : DCl) : Int := if dEnd c = -1 then 1 else 2
theorem stN_two {low most thieves : Int} {todos : List DTd} {picks : List Int} (hj : judgeE low most todos thieves picks = 0) {k : Nat} (hk : k ≤ picks.length) : wsum fE (stN low most todos thieves picks k).calls ≤ (k : Int) := by
  refine stN_ind hj (P := fun k p => wsum fE p.calls ≤ (k : Int)) (Int.le_refl _) (fun k w a h _ _ => by omega) (fun k w q v m' x a h aq r _ => ?_) hk
  obtain ⟨c0, S⟩ := GoS.mk' aq.ai aq.hi (aq.wl a) aq.run aq.pi r
  have hend : wsum fE (q.go (k : Int) w).calls ≤ wsum fE q.calls + if x.pc = 0 then 1 else 0 := by
    by_cases xp : x.pc = 0
    · rw [if_pos xp, S.offc xp, wsum_end fE S.r1]
      have e1 : fE c0 = 1 := if_pos S.r3
      have e2 : fE (endCall c0 (k : Int) x.code x.value) = 2 := if_neg (show ¬ ((k : Int) = -1) by omega)
      omega
    · rw [if_neg xp, S.onc xp]; omega
  have m1 : 1 ≤ most := by have := a.pi.dg.c1; have := a.pi.dg.cm; omega
  have m2 := a.pi.dg.mx
  have hlen := aq.wl a
  have key : ∀ y, q.calls = (stN low most todos thieves picks k).calls ++ [y] → dEnd y = -1 → (q.act w).1.pc = (if (q.act w).1.kind = 3 then 2 else 1) → ((q.act w).1.kind = 1 ∨ (q.act w).1.kind = 2 ∨ (q.act w).1.kind = 3) → wsum fE (q.go (k : Int) w).calls ≤ ((k + 1 : Nat) : Int) := fun y ec hy hp hkd => by
    have e : wsum fE q.calls = wsum fE (stN low most todos thieves picks k).calls + 1 := by
      rw [ec, wsum_snoc]; congr 1; exact if_pos hy
    have xp : x.pc ≠ 0 := by
      have hxe := r.ex
      unfold DOp.after at hxe
      rcases hkd with z | z | z
      · rw [if_neg (by omega)] at hp
        rw [if_pos z] at hxe
        unfold DOp.pushed at hxe
        rw [if_pos hp] at hxe
        rw [hxe]; show (2 : Int) ≠ 0; decide
      · rw [if_neg (by omega)] at hp
        rw [if_neg (by omega), if_pos z] at hxe
        unfold DOp.popped at hxe
        rw [if_pos hp] at hxe
        rw [hxe]; show (3 : Int) ≠ 0; decide
      · rw [if_pos z] at hp
        rw [if_neg (by omega), if_neg (by omega), if_pos z] at hxe
        unfold DOp.stolen at hxe
        rw [if_pos hp] at hxe
        rw [hxe]; show (1 : Int) ≠ 0; decide
    rw [if_neg xp] at hend
    omega
  cases pre_cases aq.pre with
  | on _ eq =>
    subst eq
    have : (if x.pc = 0 then (1 : Int) else 0) ≤ 1 := by split <;> decide
    omega
  | push w0 h1 t ts et k1 eq =>
    subst w0
    have ea : q.act 0 = (DOp.push 0 most t.2.1, ((stN low most todos thieves picks k).calls.length : Int)) := by rw [eq]; exact (act_set (p := stN low most todos thieves picks k) a.pi.pos).trans (if_pos rfl)
    have eb : DOp.push 0 most t.2.1 = _ := begin_eq m1 m2
    refine key _ (by rw [eq]) rfl ?_ ?_ <;> rw [ea, eb]
    · rfl
    · exact .inl rfl
  | pop w0 h1 t ts et k1 eq =>
    subst w0
    have ea : q.act 0 = (DOp.pop 0 most, ((stN low most todos thieves picks k).calls.length : Int)) := by rw [eq]; exact (act_set (p := stN low most todos thieves picks k) a.pi.pos).trans (if_pos rfl)
    have eb : DOp.pop 0 most = _ := begin_eq m1 m2
    refine key _ (by rw [eq]) rfl ?_ ?_ <;> rw [ea, eb]
    · rfl
    · exact .inr (.inl rfl)
  | steal w0 h1 eq =>
    have hwl : w < (stN low most todos thieves picks k).acts.length := by rw [a.al]; exact a.wl
    have ea : q.act w = (DOp.steal 0 most, ((stN low most todos thieves picks k).calls.length : Int)) := by rw [eq]; exact (act_set (p := stN low most todos thieves picks k) hwl).trans (if_pos rfl)
    have eb : DOp.steal 0 most = _ := begin_eq m1 m2
    refine key _ (by rw [eq]) rfl ?_ ?_ <;> rw [ea, eb]
    · rfl
    · exact .inr (.inr rfl)
theorem nodup_lt {l : List Nat} {n : Nat} (nd : l.Nodup) (h : ∀ x ∈ l, x < n) : l.length ≤ n := by
  have sub : ∀ {l1 l2 : List Nat}, l1.Nodup → (∀ x ∈ l1, x ∈ l2) → l1.length ≤ l2.length := by
    intro l1
    induction l1 with
    | nil => intro l2 _ _; exact Nat.zero_le _
    | cons a l1 ih =>
      intro l2 hn hs
      rw [List.nodup_cons] at hn
      have ha := hs a (by simp)
      have := ih (l2 := l2.erase a) hn.2 fun x hx => (List.mem_erase_of_ne (fun e => hn.1 (by subst e; exact hx))).2 (hs x (by simp [hx]))
      rw [List.length_erase_of_mem ha] at this
      have h0 : 0 < l2.length := List.length_pos_of_mem ha
      rw [List.length_cons]
      omega
  have := sub nd (l2 := List.range n) fun x hx => List.mem_range.2 (h x hx)
  rwa [List.length_range] at this
theorem PF.forty {W : List Nat} {todos : List DTd} {thieves most : Int} {n : Nat} {p : PS} (pf : PF W todos thieves most n p) (h3 : thieves ≤ 3) (h0 : 0 ≤ thieves) (h : wsum fE p.calls ≤ 76) : p.calls.length ≤ 40 := by
  have e : wsum fE p.calls + ((p.calls.filter fun c => decide (dEnd c = -1)).length : Int) = 2 * (p.calls.length : Int) := by
    clear h pf
    induction p.calls with
    | nil => rfl
    | cons c l ih =>
      have e1 : wsum fE (c :: l) = fE c + wsum fE l := rfl
      rw [e1]
      by_cases z : dEnd c = -1
      · rw [List.filter_cons_of_pos (by exact decide_eq_true z), show fE c = 1 from if_pos z]
        simp only [List.length_cons]
        omega
      · rw [List.filter_cons_of_neg (by simpa using z), show fE c = 2 from if_neg z]
        simp only [List.length_cons]
        omega
  have nd : ((p.calls.filter fun c => decide (dEnd c = -1)).map fun c => (dWho c).toNat).Nodup := by
    have pw : p.calls.Pairwise fun a b => (dWho a).toNat = (dWho b).toNat → dEnd a ≠ -1 := by
      rw [List.pairwise_iff_getElem]
      intro i j hi hj hij he
      have ha : p.calls[i]? = some p.calls[i] := by simp
      have hb : p.calls[j]? = some p.calls[j] := by simp
      obtain ⟨w, _, q1, _⟩ := pf.hi.c1 i _ ha
      obtain ⟨w', _, q2, _⟩ := pf.hi.c1 j _ hb
      exact (pf.hi.seq i j _ _ hij ha hb (by omega)).1
    have pw2 := pw.filter (fun c => decide (dEnd c = -1))
    rw [List.Nodup, List.pairwise_map]
    refine List.Pairwise.imp_of_mem (fun {a b} ha hb hab e => ?_) pw2
    have : dEnd a = -1 := of_decide_eq_true (List.mem_filter.1 ha).2
    exact hab e this
  have := nodup_lt nd (n := 4) fun x hx => by
    obtain ⟨c, hc, rfl⟩ := List.mem_map.1 hx
    obtain ⟨i, hi⟩ := List.mem_iff_getElem?.1 (List.mem_filter.1 hc).1
    obtain ⟨w, _, q1, _, _, _, q5, _⟩ := pf.hi.c1 i c hi
    have := pf.al
    omega
  rw [List.length_map] at this
  omega
end Go.Mx

namespace Go.Mx

/-- What the owner alone makes of its row. -/
def ownU : List Int → List DCl → List Int
  | u, [] => u
  | u, c :: cs => ownU (if dCode c = 2 then u ++ [dArg c] else if dCode c = 4 then u.dropLast else u) cs
def stl (c : DCl) : Bool := decide (dWho c ≠ 0) && decide (dCode c = 4)
/-- A call that has ended. -/
def Fine (c : DCl) : Prop := (dWho c = 0 → dKind c = 0 ∨ dKind c = 1) ∧ (dWho c ≠ 0 → dKind c = 2) ∧ May (dKind c) (dCode c)
theorem doL_pop_eq {xs : List Int} {c : DCl} {most : Int} (k : dKind c = 1) (co : dCode c = 4) (h : (doL xs c most).2 = true) : ∃ zs y, xs = zs ++ [y] ∧ (doL xs c most).1 = zs := by
  rcases List.eq_nil_or_concat xs with rfl | ⟨zs, y, rfl⟩
  · exfalso
    unfold doL at h
    rw [if_neg (show ¬ dCode c = 3 by omega), if_neg (show ¬ dCode c = 5 by omega), if_neg (show ¬ dCode c = 6 by omega), if_neg (show ¬ dKind c = 0 by omega)] at h
    cases h
  · refine ⟨zs, y, List.concat_eq_append, ?_⟩
    rw [List.concat_eq_append] at h ⊢
    have hl : ¬ (zs ++ [y]).length = 0 := by rw [List.length_append]; simp
    unfold doL
    rw [if_neg (show ¬ dCode c = 3 by omega), if_neg (show ¬ dCode c = 5 by omega), if_neg (show ¬ dCode c = 6 by omega), if_neg (show ¬ dKind c = 0 by omega), if_neg hl, if_pos (show dKind c = 1 from k)]
    show (zs ++ [y]).take ((zs ++ [y]).length - 1) = zs
    rw [List.length_append]; simp
theorem doL_steal_eq {xs : List Int} {c : DCl} {most : Int} (k : dKind c = 2) (co : dCode c = 4) (h : (doL xs c most).2 = true) : ∃ y zs, xs = y :: zs ∧ (doL xs c most).1 = zs := by
  cases xs with
  | nil =>
    exfalso
    unfold doL at h
    rw [if_neg (show ¬ dCode c = 3 by omega), if_neg (show ¬ dCode c = 5 by omega), if_neg (show ¬ dCode c = 6 by omega), if_neg (show ¬ dKind c = 0 by omega)] at h
    cases h
  | cons y zs =>
    refine ⟨y, zs, rfl, ?_⟩
    unfold doL
    rw [if_neg (show ¬ dCode c = 3 by omega), if_neg (show ¬ dCode c = 5 by omega), if_neg (show ¬ dCode c = 6 by omega), if_neg (show ¬ dKind c = 0 by omega), if_neg (show ¬ (y :: zs).length = 0 by simp), if_neg (show ¬ dKind c = 1 by omega)]
    rfl
theorem doL_push_eq {xs : List Int} {c : DCl} {most : Int} (k : dKind c = 0) (co : dCode c = 2) (h : (doL xs c most).2 = true) : (doL xs c most).1 = xs ++ [dArg c] := by
  unfold doL at h ⊢
  rw [if_neg (show ¬ dCode c = 3 by omega), if_neg (show ¬ dCode c = 5 by omega), if_neg (show ¬ dCode c = 6 by omega), if_pos (show dKind c = 0 from k)] at h ⊢
  by_cases z : most ≤ (xs.length : Int)
  · rw [if_pos z] at h; cases h
  · rw [if_neg z]
theorem doL_stay {xs : List Int} {c : DCl} {most : Int} (co : dCode c = 3 ∨ dCode c = 5 ∨ dCode c = 6) : (doL xs c most).1 = xs := by
  unfold doL
  by_cases z3 : dCode c = 3
  · rw [if_pos z3]
  · rw [if_neg z3]
    by_cases z5 : dCode c = 5
    · rw [if_pos z5]
    · rw [if_neg z5, if_pos (show dCode c = 6 by omega)]
/-- What a run leaves hangs on the owner's calls in their order, and on how many steals have got something. -/
theorem run_left {most : Int} : ∀ {rs : List DCl} {u : List Int} {s : Nat} {zs : List Int}, (∀ c ∈ rs, Fine c) → s ≤ u.length → runR most rs (u.drop s) = some zs → zs = (ownU u (rs.filter ownC)).drop (s + (rs.filter stl).length) ∧ s + (rs.filter stl).length ≤ (ownU u (rs.filter ownC)).length
  | [], u, s, zs, _, hs, h => by
    cases h
    exact ⟨rfl, hs⟩
  | c :: rs, u, s, zs, hf, hs, h => by
    have h : (if (doL (u.drop s) c most).2 = true then runR most rs (doL (u.drop s) c most).1 else none) = some zs := h
    by_cases z : (doL (u.drop s) c most).2 = true
    · rw [if_pos z] at h
      have hc := hf c (List.mem_cons_self ..)
      have hr : ∀ d ∈ rs, Fine d := fun d hd => hf d (List.mem_cons_of_mem _ hd)
      obtain ⟨f1, f2, f3⟩ := hc
      unfold May at f3
      by_cases w0 : dWho c = 0
      · have k01 := f1 w0
        have e1 : (c :: rs).filter ownC = c :: rs.filter ownC := List.filter_cons_of_pos (decide_eq_true w0)
        have e2 : (c :: rs).filter stl = rs.filter stl := List.filter_cons_of_neg (by unfold stl; rw [decide_eq_false (fun q => q w0), Bool.false_and]; decide)
        rw [e1, e2]
        show zs = (ownU (if dCode c = 2 then u ++ [dArg c] else if dCode c = 4 then u.dropLast else u) (rs.filter ownC)).drop _ ∧ _ ≤ (ownU (if dCode c = 2 then u ++ [dArg c] else if dCode c = 4 then u.dropLast else u) (rs.filter ownC)).length
        by_cases c2 : dCode c = 2
        · rw [if_pos c2]
          rw [doL_push_eq (by omega) c2 z] at h
          have : u.drop s ++ [dArg c] = (u ++ [dArg c]).drop s := by rw [List.drop_append_of_le_length hs]
          rw [this] at h
          exact run_left hr (by rw [List.length_append]; omega) h
        · rw [if_neg c2]
          by_cases c4 : dCode c = 4
          · rw [if_pos c4]
            obtain ⟨ws, y, q1, q2⟩ := doL_pop_eq (by omega) c4 z
            rw [q2] at h
            have hl := congrArg List.length q1
            rw [List.length_drop, List.length_append, List.length_singleton] at hl
            have : ws = u.dropLast.drop s := by
              have h1 : u = u.take s ++ ws ++ [y] := by rw [List.append_assoc, ← q1, List.take_append_drop]
              have h2 : u.dropLast = u.take s ++ ws := by conv => lhs; rw [h1]
                                                          rw [List.dropLast_concat]
              rw [h2, List.drop_left' (by rw [List.length_take]; omega)]
            rw [this] at h
            exact run_left hr (by rw [List.length_dropLast]; omega) h
          · rw [if_neg c4]
            rw [doL_stay (by clear hf hr; omega)] at h
            exact run_left hr hs h
      · have k2 := f2 w0
        have e1 : (c :: rs).filter ownC = rs.filter ownC := List.filter_cons_of_neg (by unfold ownC; rw [decide_eq_false w0]; decide)
        rw [e1]
        by_cases c4 : dCode c = 4
        · have e2 : (c :: rs).filter stl = c :: rs.filter stl := List.filter_cons_of_pos (by unfold stl; rw [decide_eq_true w0, decide_eq_true c4]; rfl)
          rw [e2, List.length_cons]
          obtain ⟨y, ws, q1, q2⟩ := doL_steal_eq k2 c4 z
          rw [q2] at h
          have hl := congrArg List.length q1
          rw [List.length_drop, List.length_cons] at hl
          have : ws = u.drop (s + 1) := by rw [← List.drop_drop, q1]; rfl
          rw [this] at h
          have := run_left hr (by omega) h
          rw [show s + ((rs.filter stl).length + 1) = s + 1 + (rs.filter stl).length by omega]
          exact this
        · have e2 : (c :: rs).filter stl = rs.filter stl := List.filter_cons_of_neg (by unfold stl; rw [decide_eq_false c4, Bool.and_false]; decide)
          rw [e2]
          rw [doL_stay (by clear hf hr; omega)] at h
          exact run_left hr hs h
    · rw [if_neg z] at h; cases h

theorem range_map {α : Type} (cs : List α) (d : α) : (List.range cs.length).map (fun i => (cs[i]?).getD d) = cs := by
  apply List.ext_getElem?
  intro i
  rw [List.getElem?_map]
  by_cases h : i < cs.length
  · rw [List.getElem?_range h]; simp [h]
  · rw [List.getElem?_eq_none (l := List.range cs.length) (by simpa using h), List.getElem?_eq_none (by omega)]; rfl
/-- All legal orders of calls that have all ended leave the same. -/
theorem legal_left {W : List Nat} {td : List DTd} {n : Nat} {p : PS} {most : Int} (hi : HI W td n p) (hf : ∀ c ∈ p.calls, Fine c) (he : ∀ c ∈ p.calls, 0 ≤ dEnd c) {os : List Int} (hl : LegalL p.calls most os) {xs : List Int} (hs : StepsTo p.calls most os os.length xs) :
    xs = (ownU [] (p.calls.filter ownC)).drop (p.calls.filter stl).length := by
  have hr := steps_run hs
  obtain ⟨nd, hin⟩ := steps_nd hs
  rw [List.take_length] at hr nd hin
  -- the indices
  have hN : ∃ ns : List Nat, os = ns.map (fun n : Nat => (n : Int)) := ⟨os.map Int.toNat, by
    rw [List.map_map]
    conv => lhs; rw [← List.map_id os]
    exact List.map_congr_left fun k hk => by show k = ((k.toNat : Nat) : Int); have := (hin k hk).1; omega⟩
  obtain ⟨ns, rfl⟩ := hN
  have ndn : ns.Nodup := by
    have h1 : (ns.map fun n : Nat => (n : Int)).Pairwise (· ≠ ·) := nd
    rw [List.pairwise_map] at h1
    exact h1.imp fun h e => h (by rw [e])
  have mem : ∀ i, i ∈ ns ↔ i < p.calls.length := fun i => by
    constructor
    · intro h
      obtain ⟨_, c, hc⟩ := hin (i : Int) (List.mem_map_of_mem h)
      rw [Int.toNat_natCast] at hc
      exact (List.getElem?_eq_some_iff.1 hc).1
    · intro h
      have hx : p.calls[i]? = some p.calls[i] := by simp
      obtain ⟨q, hq⟩ := hl.2.2 i _ h hx (he _ (List.getElem_mem h))
      have := List.mem_of_getElem? hq
      obtain ⟨j, hj, e⟩ := List.mem_map.1 this
      have : j = i := by omega
      rw [← this]; exact hj
  have perm : ns.Perm (List.range p.calls.length) := (List.perm_ext_iff_of_nodup ndn List.nodup_range).2 fun i => by rw [mem, List.mem_range]
  have erow : rowsI p.calls (ns.map fun n : Nat => (n : Int)) = ns.map fun i => (p.calls[i]?).getD dflt := by
    unfold rowsI
    rw [List.map_map]; rfl
  rw [erow] at hr
  let f : Nat → DCl := fun i => (p.calls[i]?).getD dflt
  have ef : (List.range p.calls.length).map f = p.calls := range_map _ _
  have fin : ∀ c ∈ ns.map f, Fine c := fun c hc => by
    obtain ⟨i, hi', rfl⟩ := List.mem_map.1 hc
    have := (mem i).1 hi'
    have hx : p.calls[i]? = some p.calls[i] := by simp
    show Fine ((p.calls[i]?).getD dflt)
    rw [hx]; exact hf _ (List.getElem_mem this)
  have key := run_left (u := []) (s := 0) fin (Nat.le_refl _) hr
  have est : ((ns.map f).filter stl).length = (p.calls.filter stl).length := by
    conv => rhs; rw [← ef]
    exact ((perm.map f).filter stl).length_eq
  have eow : (ns.map f).filter ownC = p.calls.filter ownC := by
    conv => rhs; rw [← ef]
    rw [List.filter_map, List.filter_map]
    congr 1
    refine List.Perm.eq_of_pairwise (le := fun a b => a < b) (fun a b _ _ h1 h2 => by omega) ?_ (List.pairwise_lt_range.filter _) (perm.filter _)
    have pw : ns.Pairwise fun a b => (ownC ∘ f) a = true → (ownC ∘ f) b = true → a < b := by
      rw [List.pairwise_iff_getElem]
      intro i j hi' hj' hij ha hb
      have la := (mem ns[i]).1 (List.getElem_mem hi')
      have lb := (mem ns[j]).1 (List.getElem_mem hj')
      have xa : p.calls[ns[i]]? = some p.calls[ns[i]] := by simp
      have xb : p.calls[ns[j]]? = some p.calls[ns[j]] := by simp
      have ha : ownC ((p.calls[ns[i]]?).getD dflt) = true := ha
      have hb : ownC ((p.calls[ns[j]]?).getD dflt) = true := hb
      rw [xa] at ha
      rw [xb] at hb
      have ha : dWho p.calls[ns[i]] = 0 := of_decide_eq_true ha
      have hb : dWho p.calls[ns[j]] = 0 := of_decide_eq_true hb
      have hne : ns[i] ≠ ns[j] := List.pairwise_iff_getElem.1 ndn i j hi' hj' hij
      rcases Nat.lt_or_gt_of_ne hne with h | h
      · exact h
      · exfalso
        obtain ⟨z1, z2⟩ := hi.seq ns[j] ns[i] _ _ h xb xa (by omega)
        have z0 := he _ (List.getElem_mem lb)
        exact hl.2.1 i j (ns[i] : Int) (ns[j] : Int) _ _ hij (by simpa using hj') (by simp [hi']) (by simp [hj']) (by rw [Int.toNat_natCast]; exact xa) (by rw [Int.toNat_natCast]; exact xb) ⟨z0, z2⟩
    rw [List.pairwise_filter]
    exact pw.imp fun h ha hb => h ha hb
  rw [eow, est] at key
  rw [key.1, Nat.zero_add]
theorem PF.fine {W : List Nat} {todos : List DTd} {thieves most : Int} {n : Nat} {p : PS} (pf : PF W todos thieves most n p) (hh : HistN p.calls p.calls.length) (he : ∀ c ∈ p.calls, 0 ≤ dEnd c) : ∀ c ∈ p.calls, Fine c := fun c hc => by
  obtain ⟨i, hi⟩ := List.mem_iff_getElem?.1 hc
  obtain ⟨s1, s2, s3, s4, s5⟩ : SoundI (dWho c) (dKind c) (dBeg c) (dEnd c) (dCode c) := (hh i c (List.getElem?_eq_some_iff.1 hi).1 hi).1
  have := he c hc
  refine ⟨s3, fun z => s4 (by omega), ?_⟩
  rcases s5 with ⟨_, z⟩ | ⟨_, _, z⟩
  · omega
  · exact z
end Go.Mx

namespace Go.Mx

theorem play_ln {low most thieves : Int} {todos : List DTd} {picks : List Int} (hj : judgeE low most todos thieves picks = 0) (h76 : picks.length ≤ 76) :
    ErrO (playOf low most todos thieves picks).calls most 0 ∧ ∃ os, LegalL (playOf low most todos thieves picks).calls most os ∧ StepsTo (playOf low most todos thieves picks).calls most os os.length (ctn (playOf low most todos thieves picks).m.cs) := by
  obtain ⟨_, _, j3, j4, j5, j6⟩ := judge_ok hj
  have pf := play_pf hj
  obtain ⟨os, ln⟩ := stN_ln hj (Nat.le_refl _)
  have two := stN_two hj (Nat.le_refl _)
  have may := stN_may hj (Nat.le_refl _)
  rw [stN_all] at ln two may
  have hh := pf.hist j5 j4 j6 may
  have h40 := pf.forty j5 j4 (by omega)
  obtain ⟨l1, l2⟩ := ln.legal
  exact ⟨.inr (.inr (.inr (.inr ⟨by omega, ⟨by have := j3.1; have := j3.2.1; omega, j3.2.2⟩, hh, ⟨_, l1⟩, rfl⟩))), _, l1, l2⟩

theorem dlinear_spec {g : Den klaw4Game} {h : Heap} {xs : List DTd} {ys : List Int} (ht : Arr h KTd g.2.2.1 xs) (hp : Arr h ki g.2.2.2.2.1 ys)
    {c1 : Den klaw4Game → Int → Int → Heap → (Den klaw4Game → Heap → Prop) → Prop} {c2 : Den klaw4Game → Sl → Heap → ((Den kapiDequeRun × (Bool × Unit)) → Heap → Prop) → Prop} {c3 : Den klaw4Game → Sl → Heap → (Bool → Heap → Prop) → Prop}
    {c4 : Sl → Int → Heap → ((Sl × (Int × Unit)) → Heap → Prop) → Prop} {c5 : Sl → Int → Sl → Heap → (Bool → Heap → Prop) → Prop}
    (i1 : ∀ {g : Den klaw4Game} {h : Heap} {xs : List DTd} {ys : List Int} {M P : Nat} {Q : Den klaw4Game → Heap → Prop}, Arr h KTd g.2.2.1 xs → Arr h ki g.2.2.2.2.1 ys → M ≤ 4096 → P ≤ 1048576 → (∀ td pk h', New h h' KTd td (fitT M xs) → New h h' ki pk (fitP (1 + g.2.2.2.1 % 4) P ys) → Q ((1 + g.1 % 8), ((1 + g.1 % 8 + g.2.1 % 8), (td, ((g.2.2.2.1 % 4), (pk, ()))))) h') → c1 g (M : Int) (P : Int) h Q)
    (i2 : ∀ {g : Den klaw4Game} {pk : Sl} {h : Heap} {ts : List DTd} {ps : List Int} {Q : (Den kapiDequeRun × (Bool × Unit)) → Heap → Prop}, Arr h KTd g.2.2.1 ts → Arr h ki pk ps → judgeE g.1 g.2.1 ts g.2.2.2.1 ps = 0 → (∀ ca re lg h', PlayR h h' (playOf g.1 g.2.1 ts g.2.2.2.1 ps) ca re lg → Q ((ca, (re, (lg, ()))), (true, ())) h') → c2 g pk h Q)
    (i3 : ∀ {g : Den klaw4Game} {cl : Sl} {h : Heap} {cs : List DCl} {ps : List Int} {Q : Bool → Heap → Prop}, Arr h KCl cl cs → cs.length ≤ 1048576 → Arr h ki g.2.2.2.2.1 ps → ps.length ≤ 1048576 → 0 ≤ g.2.2.2.1 → g.2.2.2.1 ≤ 3 → (∀ w at' : Nat, (w = 0 → (g.2.2.1.len : Int) ≠ 0) → ps[at']? = some (w : Int) → (∀ m, m < at' → ps[m]? ≠ some (w : Int)) → ∃ (j : Nat) (c : DCl), cs[j]? = some c ∧ dWho c = (w : Int) ∧ dBeg c = (at' : Int)) → Q true h → c3 g cl h Q)
    (i4 : ∀ {l : Sl} {m : Int} {h : Heap} {us : List Cl} {Q : (Sl × (Int × Unit)) → Heap → Prop}, Arr h kapiCall l us → l.len ≤ 2097152 → (∀ r e os h', OrdR us m e os → New h h' ki r os → Q (r, (e, ())) h') → c4 l m h Q)
    (i5 : ∀ {a o : Sl} {m : Int} {h : Heap} {us : List Cl} {vs : List Int} {Q : Bool → Heap → Prop}, Arr h kapiCall a us → Arr h ki o vs → a.len ≤ 2097152 → o.len ≤ 2097152 → (∀ (b : Bool) h', (b = true ↔ OkL us m vs) → le h h' → Q b h') → c5 a m o h Q)
    {Q : Bool → Heap → Prop} (hQ : ∀ h', le h h' → Q true h') : law4_HistDequeLinear.M c1 c2 c3 c4 c5 g h Q := by
  have r3 := mod_range (x := g.2.2.2.1) (n := 4) (by decide)
  refine i1 (M := 40) (P := 76) ht hp (by decide) (by decide) fun td pk h1 n1 n2 => ?_
  have hj := fit_judge g.1 g.2.1 g.2.2.2.1 (M := 40) (P := 76) (by decide) (by decide) xs (1 + g.2.2.2.1 % 4) ys
  have red := fitP_red (n := 76) (ys := ys) r3.1
  have h76 : (fitP (1 + g.2.2.2.1 % 4) 76 ys).length ≤ 76 := by rw [fitP_len]; omega
  have htl := n1.len
  generalize g.2.2.2.1 % 4 = th at *
  generalize 1 + g.1 % 8 + g.2.1 % 8 = most at *
  generalize 1 + g.1 % 8 = low at *
  generalize fitT 40 xs = ts at *
  generalize fitP (1 + th) 76 ys = ps at *
  obtain ⟨j1, j2, j3, j4, j5, j6⟩ := judge_ok hj
  refine i2 (g := (low, (most, (td, (th, (pk, ())))))) n1.arr n2.arr hj fun ca re lg h2 pr => ⟨fun z => (by cases z), fun _ => ?_⟩
  have pf := play_pf hj
  have hal := pf.hi.len_le
  obtain ⟨hE, os, hL, hS⟩ := play_ln hj h76
  have hcl : (playOf low most ts th ps).calls.length = ca.len := pr.calls.len
  have pca : Arr h2 KCl ca (playOf low most ts th ps).calls := pr.calls.arr
  have hl2 : le h1 h2 := pr.calls.le
  generalize playOf low most ts th ps = p at *
  refine i3 (g := (low, (most, (td, (th, (pk, ())))))) pca (by omega) (n2.arr.le hl2) j2 j4 j5 (fun w at' hw ha hf => pf.begun j4 red (fun z q => hw z (by have : td.len = 0 := by rw [← htl, q]; rfl
                                                                                                                                                           show (td.len : Int) = 0; omega)) ha hf) ⟨fun z => (by cases z), fun _ => ?_⟩
  refine i4 (us := p.calls) pca (show ca.len ≤ _ by omega) fun r e vs h3 ho nr => ?_
  have e0 := ho.1.one hE
  subst e0
  have hok := ho.2.2 rfl
  refine ⟨fun _ => i5 (us := p.calls) (vs := vs) (pca.le nr.le) nr.arr (show ca.len ≤ _ by omega) ?_ fun b h4 hb le4 => ?_, fun z => absurd rfl (of_decide_eq_false z)⟩
  · have hlen := nr.len
    obtain ⟨⟨zs, hz⟩, _⟩ := hok.2.2.2
    obtain ⟨nd, hin⟩ := steps_nd hz
    rw [List.take_length] at nd hin
    have hle : (vs.map Int.toNat).length ≤ p.calls.length := nodup_lt (by
      rw [List.Nodup, List.pairwise_map]
      refine List.Pairwise.imp_of_mem (fun {a b} ha hb hab e => hab ?_) nd
      have := (hin a ha).1
      have := (hin b hb).1
      omega) fun x hx => by
        obtain ⟨k, hk, rfl⟩ := List.mem_map.1 hx
        obtain ⟨_, c, hc⟩ := hin k hk
        exact (List.getElem?_eq_some_iff.1 hc).1
    rw [List.length_map] at hle
    show r.len ≤ _
    omega
  · rw [hb.2 hok]
    exact hQ _ (((n1.le.trans hl2).trans nr.le).trans le4)

theorem drest_spec {g : Den klaw4Game} {h : Heap} {xs : List DTd} {ys : List Int} (ht : Arr h KTd g.2.2.1 xs) (hp : Arr h ki g.2.2.2.2.1 ys)
    {c1 : Den klaw4Game → Int → Int → Heap → (Den klaw4Game → Heap → Prop) → Prop} {c2 : Den klaw4Game → Sl → Heap → ((Den kapiDequeRun × (Bool × Unit)) → Heap → Prop) → Prop} {c3 : Den klaw4Game → Sl → Heap → (Bool → Heap → Prop) → Prop}
    {c4 : Sl → Int → Heap → ((Sl × (Int × Unit)) → Heap → Prop) → Prop} {c5 : Sl → Int → Sl → Heap → ((Sl × (Bool × Unit)) → Heap → Prop) → Prop} {c6 : Sl → Sl → Heap → (Bool → Heap → Prop) → Prop}
    (i1 : ∀ {g : Den klaw4Game} {h : Heap} {xs : List DTd} {ys : List Int} {M P : Nat} {Q : Den klaw4Game → Heap → Prop}, Arr h KTd g.2.2.1 xs → Arr h ki g.2.2.2.2.1 ys → M ≤ 4096 → P ≤ 1048576 → (∀ td pk h', New h h' KTd td (fitT M xs) → New h h' ki pk (fitP (1 + g.2.2.2.1 % 4) P ys) → Q ((1 + g.1 % 8), ((1 + g.1 % 8 + g.2.1 % 8), (td, ((g.2.2.2.1 % 4), (pk, ()))))) h') → c1 g (M : Int) (P : Int) h Q)
    (i2 : ∀ {g : Den klaw4Game} {pk : Sl} {h : Heap} {ts : List DTd} {ps : List Int} {Q : (Den kapiDequeRun × (Bool × Unit)) → Heap → Prop}, Arr h KTd g.2.2.1 ts → Arr h ki pk ps → judgeE g.1 g.2.1 ts g.2.2.2.1 ps = 0 → (∀ ca re lg h', PlayR h h' (playOf g.1 g.2.1 ts g.2.2.2.1 ps) ca re lg → Q ((ca, (re, (lg, ()))), (true, ())) h') → c2 g pk h Q)
    (i3 : ∀ {g : Den klaw4Game} {cl : Sl} {h : Heap} {cs : List DCl} {ps : List Int} {Q : Bool → Heap → Prop}, Arr h KCl cl cs → cs.length ≤ 1048576 → Arr h ki g.2.2.2.2.1 ps → ps.length ≤ 1048576 → 0 ≤ g.2.2.2.1 → g.2.2.2.1 ≤ 3 → (∀ w at' : Nat, (w = 0 → (g.2.2.1.len : Int) ≠ 0) → ps[at']? = some (w : Int) → (∀ m, m < at' → ps[m]? ≠ some (w : Int)) → ∃ (j : Nat) (c : DCl), cs[j]? = some c ∧ dWho c = (w : Int) ∧ dBeg c = (at' : Int)) → Q true h → c3 g cl h Q)
    (i4 : ∀ {l : Sl} {m : Int} {h : Heap} {us : List Cl} {Q : (Sl × (Int × Unit)) → Heap → Prop}, Arr h kapiCall l us → l.len ≤ 2097152 → (∀ r e os h', OrdR us m e os → New h h' ki r os → Q (r, (e, ())) h') → c4 l m h Q)
    (i5 : ∀ {a b c h} {us : List Cl} {vs : List Int} {Q : (Sl × (Bool × Unit)) → Heap → Prop}, Arr h kapiCall a us → Arr h ki c vs → a.len ≤ 40 → c.len ≤ 2097152 → (∀ r (b' : Bool) h', (b' = true ↔ LegalL us b vs) → (b' = true → ∃ xs, StepsTo us b vs vs.length xs ∧ Arr h' ki r xs) → le h h' → Q (r, b', ()) h') → c5 a b c h Q)
    (i6 : ∀ {a b h Q}, law4_sameInts.M a b h Q → c6 a b h Q)
    {Q : Bool → Heap → Prop} (hQ : ∀ h', le h h' → Q true h') : law4_HistDequeRest.M c1 c2 c3 c4 c5 c6 g h Q := by
  have r3 := mod_range (x := g.2.2.2.1) (n := 4) (by decide)
  refine i1 (M := 40) (P := 76) ht hp (by decide) (by decide) fun td pk h1 n1 n2 => ?_
  have hj := fit_judge g.1 g.2.1 g.2.2.2.1 (M := 40) (P := 76) (by decide) (by decide) xs (1 + g.2.2.2.1 % 4) ys
  have red := fitP_red (n := 76) (ys := ys) r3.1
  have h76 : (fitP (1 + g.2.2.2.1 % 4) 76 ys).length ≤ 76 := by rw [fitP_len]; omega
  have htl := n1.len
  generalize g.2.2.2.1 % 4 = th at *
  generalize 1 + g.1 % 8 + g.2.1 % 8 = most at *
  generalize 1 + g.1 % 8 = low at *
  generalize fitT 40 xs = ts at *
  generalize fitP (1 + th) 76 ys = ps at *
  obtain ⟨j1, j2, j3, j4, j5, j6⟩ := judge_ok hj
  refine i2 (g := (low, (most, (td, (th, (pk, ())))))) n1.arr n2.arr hj fun ca re lg h2 pr => ⟨fun z => (by cases z), fun _ => ?_⟩
  have pf := play_pf hj
  have hal := pf.hi.len_le
  obtain ⟨hE, os, hL, hS⟩ := play_ln hj h76
  have hcl : (playOf low most ts th ps).calls.length = ca.len := pr.calls.len
  have pca : Arr h2 KCl ca (playOf low most ts th ps).calls := pr.calls.arr
  have pre : Arr h2 ki re (ctn (playOf low most ts th ps).m.cs) := pr.rest.arr
  have hl2 : le h1 h2 := pr.calls.le
  generalize playOf low most ts th ps = p at *
  refine i3 (g := (low, (most, (td, (th, (pk, ())))))) pca (by omega) (n2.arr.le hl2) j2 j4 j5 (fun w at' hw ha hf => pf.begun j4 red (fun z q => hw z (by have : td.len = 0 := by rw [← htl, q]; rfl
                                                                                                                                                           show (td.len : Int) = 0; omega)) ha hf) ⟨fun z => (by cases z), fun _ => ?_⟩
  have le2 := n1.le.trans hl2
  refine Loop.up p.calls.length (fun s => s.1) (fun i s k => k = h2 ∧ ∀ j c, j < i → p.calls[j]? = some c → 0 ≤ dEnd c) rfl ⟨rfl, fun j c hj => absurd hj (Nat.not_lt_zero _)⟩ ?_
  rintro i ⟨i', u⟩ k go hi hcc ⟨rfl, hI⟩ hgo
  dsimp only at hcc; subst hcc
  refine dcase (fun gg => ?_) (fun gg => ?_)
  · have gg : (i : Int) < (ca.len : Int) := gg
    have hil : i < p.calls.length := by omega
    have hx : p.calls[i]? = some p.calls[i] := by simp
    obtain ⟨ac, hac⟩ := pca.addr (by omega)
    refine ⟨⟨Int.natCast_nonneg i, gg⟩, ?_⟩
    show deref ca.a _
    rw [hac]
    simp only [deref]
    rw [Int.toNat_natCast]
    obtain ⟨a1, ea, _, _, en, _⟩ := cl_cells (cs := p.calls) pca hx
    have ea2 : some ac = some a1 := hac.symm.trans ea
    cases ea2
    refine ⟨dEnd p.calls[i], en, ?_⟩
    refine dcase (fun _ => hQ _ le2) (fun z => hgo hil _ _ (w64_nat (n := p.calls.length) hil (by omega)) ⟨rfl, fun j c hj hc => ?_⟩)
    by_cases e : j = i
    · subst e
      rw [hx] at hc
      cases hc
      have z : ¬ dEnd p.calls[j] < 0 := z
      omega
    · exact hI j c (by omega) hc
  · have gg : ¬ (i : Int) < (ca.len : Int) := gg
    have hall : ∀ c ∈ p.calls, 0 ≤ dEnd c := fun c hc => by
      obtain ⟨j, hj⟩ := List.mem_iff_getElem?.1 hc
      exact hI j c (by have := (List.getElem?_eq_some_iff.1 hj).1; omega) hj
    refine i4 (us := p.calls) pca (show ca.len ≤ _ by omega) fun r e vs h3 ho nr => ?_
    have e0 := ho.1.one hE
    subst e0
    have hok := ho.2.2 rfl
    refine ⟨fun z => absurd rfl (of_decide_eq_true z), fun _ => i5 (us := p.calls) (vs := vs) (pca.le nr.le) nr.arr (show ca.len ≤ _ by have := hok.1; omega) ?_ fun r2 b h4 hb hx le4 => ?_⟩
    · have hlen := nr.len
      obtain ⟨⟨zs, hz⟩, _⟩ := hok.2.2.2
      obtain ⟨nd, hin⟩ := steps_nd hz
      rw [List.take_length] at nd hin
      have hle : (vs.map Int.toNat).length ≤ p.calls.length := nodup_lt (by
        rw [List.Nodup, List.pairwise_map]
        refine List.Pairwise.imp_of_mem (fun {a b} ha hb hab e => hab ?_) nd
        have := (hin a ha).1
        have := (hin b hb).1
        omega) fun x hx => by
          obtain ⟨k, hk, rfl⟩ := List.mem_map.1 hx
          obtain ⟨_, c, hc⟩ := hin k hk
          exact (List.getElem?_eq_some_iff.1 hc).1
      rw [List.length_map] at hle
      show r.len ≤ _
      omega
    · have hbt := hb.2 hok.2.2.2
      subst hbt
      obtain ⟨zs, hz, az⟩ := hx rfl
      have hfin := pf.fine hok.2.2.1 hall
      have s1 := legal_left pf.hi hfin hall hok.2.2.2 hz
      have s2 := legal_left pf.hi hfin hall hL hS
      have e : zs = ctn p.m.cs := s1.trans s2.symm
      subst e
      have hle := (le2.trans nr.le).trans le4
      refine ⟨fun _ => i6 (sameInts_spec az (pre.le (nr.le.trans le4)) ?_ (hQ _ hle)), fun z => (by cases z)⟩
      have h1 := az.1
      have hct2 : (ctn p.m.cs).length ≤ 4097 := by
        rw [ctn_len]
        have := pf.pi.dg.bn
        have := pf.pi.dg.t0
        have := pf.pi.dg.fit
        have := pf.pi.dg.cm
        have := pf.pi.dg.mx
        have hB : gt p.m.cs 1 ≤ Bl p.m.cs (p.act 0).1 + 1 := by
          have hos := pf.pi.os
          unfold Bl
          split
          · rename_i hl
            cases hos with
            | po2 _ _ _ _ b | po4 _ _ _ _ b | po12 _ _ _ _ b | po13 _ _ _ _ b | pe _ _ _ _ b | pf _ _ _ b => omega
            | idle p => exact absurd hl (lowp (.inl p))
            | pu1 k | pu2 k | pu3 k | pu4 k | pu5 k | pu6 k | pu7 k | pu8 k | pu9 k | pu10 k | pu11 k => exact absurd hl (low1 k)
            | po1 k p => exact absurd hl (lowp (.inr (.inl p)))
            | po3 k p => exact absurd hl (lowp (.inr (.inr (.inl p))))
            | po11 k p i => exact absurd hl (lowp (.inr (.inr (.inr ⟨p, i⟩))))
          · omega
        omega
      omega
end Go.Mx
