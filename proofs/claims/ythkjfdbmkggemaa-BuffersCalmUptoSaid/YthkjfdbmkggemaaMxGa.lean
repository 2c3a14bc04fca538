/-
  Lists without races: what each actor sees is what plain cells hold.
-/
import Derived.Test.YthkjfdbmkggemaaMxBm
import Derived.Test.YthkjfdbmkggemaaMxBk
set_option linter.unusedVariables false
set_option linter.unusedSimpArgs false
set_option linter.unusedSectionVars false
namespace Go.Mx

def mayC (k : Nat) (a : Int) : Prop := (0 ≤ a ∧ a < 4) ∨ (4 + 4 * (k : Int) ≤ a ∧ a < 8 + 4 * (k : Int))
def ownC (k : Nat) (a : Int) : Prop := 4 + 4 * (k : Int) ≤ a ∧ a < 8 + 4 * (k : Int)
def innC (n a : Int) : Prop := 0 ≤ a ∧ a < n
def PrivA (k : Nat) (t : AMv) : Prop := mayC k t.2.2.1 ∧ (t.2.1 = 1 → ownC k t.2.2.1)
def privA (k : Nat) (t : AMv) : AMv := (t.1, (t.2.1, (if t.2.1 = 1 ∨ 4 ≤ t.2.2.1 % 8 then t.2.2.1 % 4 + 4 + 4 * (k : Int) else t.2.2.1 % 4, (t.2.2.2.1, (t.2.2.2.2.1, ())))))
theorem privA_ok (k : Nat) (t : AMv) : PrivA k (privA k t) := by
  obtain ⟨t0, t1, t2, t3, t4, tu⟩ := t
  change Int at t1 t2
  unfold PrivA privA mayC ownC
  dsimp only
  by_cases q : t1 = 1 ∨ 4 ≤ t2 % 8
  · rw [if_pos q]; omega
  · rw [if_neg q]
    exact ⟨.inl ⟨by omega, by omega⟩, fun e => absurd (.inl e) q⟩
def privP (ls : List (List AMv)) : List (List AMv) := (List.range ls.length).map fun i => (ls.getD i []).map (privA i)
theorem privP_len (ls : List (List AMv)) : (privP ls).length = ls.length := by unfold privP; simp
theorem privP_get {ls : List (List AMv)} {i : Nat} (h : i < ls.length) : (privP ls)[i]? = some ((ls.getD i []).map (privA i)) := by
  unfold privP
  rw [List.getElem?_map, List.getElem?_range h]; rfl
theorem privP_ok (ls : List (List AMv)) (w : Nat) : ∀ t ∈ (privP ls).getD w [], PrivA w t := by
  intro t ht
  rw [List.getD_eq_getElem?_getD] at ht
  by_cases h : w < ls.length
  · rw [privP_get h] at ht
    obtain ⟨x, _, rfl⟩ := List.mem_map.1 ht
    exact privA_ok w x
  · rw [List.getElem?_eq_none (by rw [privP_len]; omega)] at ht
    cases ht

theorem seenW_none {q : List Wait} {a : Int} (h : ∀ e ∈ q, e.1 ≠ a) : seenW q a = none := by
  unfold seenW
  rw [Option.map_eq_none_iff, List.find?_eq_none]
  intro x hx
  simp [h x (by simpa using hx)]
theorem seen_q {M : BM} {L : Nat} (o : M.Ok L) (w : Nat) {a : Int} (ha : 0 ≤ a ∧ a < (M.cs.length : Int)) : atC (M.vcs w) a = (seenW (M.q w) a).getD (atC M.cs a) := seen_at _ _ _ (fun e he => o.qin w e he) ha

theorem cact_agree {sz : Int} {P V : List Int} (hP : (P.length : Int) = sz) (hV : (V.length : Int) = sz) {t : AMv} (ht : innC sz t.2.2.1) (he : atC P t.2.2.1 = atC V t.2.2.1) :
    (cact sz P t).2 = (cact sz V t).2 ∧ ((cact sz P t).1.length : Int) = sz ∧ (∀ a, 0 ≤ a ∧ a < sz → a ≠ t.2.2.1 → atC (cact sz P t).1 a = atC P a) ∧ (∀ a, 0 ≤ a ∧ a < sz → atC P a = atC V a → atC (cact sz P t).1 a = atC (cact sz V t).1 a) := by
  obtain ⟨t0, t1, t2, t3, t4, tu⟩ := t
  change Int at t1 t2 t3 t4
  dsimp only at ht he ⊢
  have ht : 0 ≤ t2 ∧ t2 < sz := ht
  have i1 : InC P t2 := ⟨ht.1, by omega⟩
  have i2 : InC V t2 := ⟨ht.1, by omega⟩
  have sP : ∀ v, ((P.set t2.toNat v).length : Int) = sz ∧ (∀ a, 0 ≤ a ∧ a < sz → a ≠ t2 → atC (P.set t2.toNat v) a = atC P a) ∧ (∀ a, 0 ≤ a ∧ a < sz → atC P a = atC V a → atC (P.set t2.toNat v) a = atC (V.set t2.toNat v) a) := by
    intro v
    refine ⟨by rw [List.length_set]; exact hP, fun a ha hn => ?_, fun a ha hx => ?_⟩
    · rw [atC_set ht.1 (by omega), if_neg (fun q => hn q.symm)]
    · rw [atC_set ht.1 (by omega), atC_set ht.1 (by omega), hx]
  have same : (P.length : Int) = sz ∧ (∀ a, 0 ≤ a ∧ a < sz → a ≠ t2 → atC P a = atC P a) ∧ (∀ a, 0 ≤ a ∧ a < sz → atC P a = atC V a → atC P a = atC V a) := ⟨hP, fun _ _ _ => rfl, fun _ _ h => h⟩
  unfold cact
  dsimp only
  by_cases q0 : t1 = 0
  · rw [if_pos q0, if_pos q0, if_pos i1, if_pos i2, he]; exact ⟨rfl, same⟩
  rw [if_neg q0, if_neg q0]
  by_cases q1 : t1 = 1
  · rw [if_pos q1, if_pos q1, if_pos i1, if_pos i2]; exact ⟨rfl, sP _⟩
  rw [if_neg q1, if_neg q1]
  by_cases q2 : t1 = 2
  · rw [if_pos q2, if_pos q2, if_pos i1, if_pos i2, he]
    by_cases z : atC V t2 = t3
    · rw [if_pos z, if_pos z]; exact ⟨rfl, sP _⟩
    · rw [if_neg z, if_neg z]; exact ⟨rfl, same⟩
  rw [if_neg q2, if_neg q2]
  by_cases q3 : t1 = 3
  · rw [if_pos q3, if_pos q3, if_pos i1, if_pos i2, he]; exact ⟨rfl, sP _⟩
  rw [if_neg q3, if_neg q3]
  by_cases q4 : t1 = 4
  · rw [if_pos q4, if_pos q4]
    by_cases c1 : t3 < 1
    · rw [if_pos c1, if_pos c1]; exact ⟨rfl, same⟩
    · rw [if_neg c1, if_neg c1, if_pos (by omega), if_pos (by omega)]; exact ⟨rfl, same⟩
  rw [if_neg q4, if_neg q4]
  exact ⟨rfl, same⟩

structure CalV (M : BM) (P : List Int) (n : Nat) : Prop where
  own : ∀ w, ∀ e ∈ M.q w, ownC w e.1
  len : (P.length : Int) = M.sz
  sz : M.sz = (M.cs.length : Int)
  nn : M.sz = 4 + 4 * (n : Int)
  see : ∀ w a, w < n → mayC w a → atC P a = atC (M.vcs w) a
theorem CalV.low {M : BM} {P : List Int} {n : Nat} (c : CalV M P n) {L : Nat} (o : M.Ok L) (w : Nat) {a : Int} (ha : 0 ≤ a ∧ a < 4) : atC (M.vcs w) a = atC M.cs a := by
  have := c.sz
  have := c.nn
  rw [seen_q o w (by omega), seenW_none (fun e he z => by have q := c.own w e he; rw [z] at q; unfold ownC at q; omega)]; rfl
theorem mayC.inn {w n : Nat} {a : Int} (h : mayC w a) (hw : w < n) : 0 ≤ a ∧ a < 4 + 4 * (n : Int) := by unfold mayC at h; omega
/-- Actors that did nothing see what they saw. -/
theorem vcs_keep {M M' : BM} {L L' : Nat} (o : M.Ok L) (o' : M'.Ok L') {w : Nat} (hq : M'.q w = M.q w) (hl : M'.cs.length = M.cs.length) {a : Int} (ha : 0 ≤ a ∧ a < (M.cs.length : Int)) (hc : atC M'.cs a = atC M.cs a) : atC (M'.vcs w) a = atC (M.vcs w) a := by
  rw [seen_q o w ha, seen_q o' w (by omega), hq, hc]
theorem CalV.flush {M : BM} {P : List Int} {n L : Nat} (o : M.Ok L) (c : CalV M P n) (k : Nat) : CalV (M.flush k) P n := by
  obtain ⟨b1, b2, b3, b4, b5, b6, b7⟩ := M.flush_same k
  have csz := c.sz
  have cn := c.nn
  refine ⟨fun w e he => ?_, by rw [b3]; exact c.len, by rw [b3, b5]; exact c.sz, by rw [b3]; exact c.nn, fun w a hw ha => ?_⟩
  · by_cases q : w = k
    · subst q
      rw [b7] at he
      exact c.own w e (List.mem_of_mem_drop he)
    · rw [b6 w q] at he; exact c.own w e he
  · by_cases q : w = k
    · subst q
      rw [BM.vcs_flush]; exact c.see w a hw ha
    · rw [c.see w a hw ha]
      have hin := ha.inn hw
      refine (vcs_keep o (o.flush k) (b6 w q) b5 (by omega) ?_).symm
      cases e : M.q k with
      | nil => rw [BM.flush_nil e]
      | cons x r =>
        have hx := c.own k x (by rw [e]; exact .head _)
        rw [BM.flush_cons e]
        show atC (M.cs.set x.1.toNat x.2.1) a = _
        have hx0 : (0 : Int) ≤ x.1 := by unfold ownC at hx; exact Int.le_trans (by omega) hx.1
        rw [atC_set hx0 (by omega), if_neg]
        intro z
        rw [z] at hx
        unfold mayC at ha
        unfold ownC at hx
        omega
theorem drainN_other {k : Nat} {a : Int} : ∀ (i : Nat) {M : BM} {L : Nat}, M.Ok L → (0 ≤ a ∧ a < (M.cs.length : Int)) → (∀ e ∈ M.q k, e.1 ≠ a) → atC (BM.drainN k i M).cs a = atC M.cs a
  | 0, _, _, _, _, _ => rfl
  | i + 1, M, L, o, ha, h => by
    obtain ⟨b1, b2, b3, b4, b5, b6, b7⟩ := M.flush_same k
    rw [BM.drainN, drainN_other i (o.flush k) (by omega) (fun e he => h e (List.mem_of_mem_drop (b7 ▸ he)))]
    cases e : M.q k with
    | nil => rw [BM.flush_nil e]
    | cons x r =>
      have hx := o.qin k x (by rw [e]; exact .head _)
      have hn := h x (by rw [e]; exact .head _)
      rw [BM.flush_cons e]
      show atC (M.cs.set x.1.toNat x.2.1) a = _
      rw [atC_set hx.1 ha, if_neg hn]
/-- An act changes no cell but its own and those of the stores that wait. -/
theorem act_other {M : BM} {L k : Nat} (o : M.Ok L) (hs : M.sz = (M.cs.length : Int)) {t : AMv} {a : Int} (ha : 0 ≤ a ∧ a < (M.cs.length : Int)) (h : ∀ e ∈ M.q k, e.1 ≠ a) (hn : a ≠ t.2.2.1) : atC (M.act k t).1.cs a = atC M.cs a := by
  have hd : atC (M.drain k).cs a = atC M.cs a := drainN_other _ o ha h
  have hl := (M.drain_same k).2.2.2.2.1
  have st : ∀ v, M.In t.2.2.1 → atC ((M.drain k).cs.set t.2.2.1.toNat v) a = atC M.cs a := fun v hi => by
    rw [atC_set hi.1 (by omega), if_neg (fun q => hn q.symm)]; exact hd
  unfold BM.act
  split
  · unfold BM.load
    split
    · split <;> rfl
    · rfl
  split
  · unfold BM.store
    split
    · dsimp only
      split
      · exact drainN_other 1 o ha h
      · rfl
    · rfl
  split
  · unfold BM.cas
    split
    · rename_i hi
      show atC (if _ then _ else _) a = _
      split
      · exact st _ hi
      · exact hd
    · rfl
  split
  · unfold BM.add
    split
    · rename_i hi
      exact st _ hi
    · rfl
  split
  · unfold BM.reserve
    split
    · rfl
    split
    · rfl
    · omega
  split
  · exact hd
  · rfl
theorem act_qk {M : BM} {k : Nat} {t : AMv} : ∀ e ∈ (M.act k t).1.q k, e ∈ M.q k ∨ (t.2.1 = 1 ∧ e.1 = t.2.2.1) := by
  have hd := (M.drain_same k).2.2.2.2.2.2
  have dr : ∀ e ∈ (M.drain k).q k, e ∈ M.q k ∨ (t.2.1 = 1 ∧ e.1 = t.2.2.1) := fun e he => by rw [hd] at he; cases he
  unfold BM.act
  split
  · unfold BM.load
    split
    · split <;> exact fun e he => .inl he
    · exact fun e he => .inl he
  split
  · rename_i q1
    unfold BM.store
    split
    · have key : ∀ M1 : BM, (∀ e ∈ M1.q k, e ∈ M.q k) → ∀ e ∈ (M1.setq k (M1.q k ++ [(t.2.2.1, (t.2.2.2.1, ()))])).q k, e ∈ M.q k ∨ (t.2.1 = 1 ∧ e.1 = t.2.2.1) := by
        intro M1 h1 e he
        have he : e ∈ (if k = k then M1.q k ++ [(t.2.2.1, (t.2.2.2.1, ()))] else M1.q k) := he
        rw [if_pos rfl] at he
        rcases List.mem_append.1 he with he | he
        · exact .inl (h1 e he)
        · obtain rfl : e = (t.2.2.1, (t.2.2.2.1, ())) := by simpa using he
          exact .inr ⟨q1, rfl⟩
      dsimp only
      split
      · exact key _ fun e he => List.mem_of_mem_drop ((M.flush_same k).2.2.2.2.2.2 ▸ he)
      · exact key _ fun e he => he
    · exact fun e he => .inl he
  split
  · unfold BM.cas
    split
    · exact dr
    · exact fun e he => .inl he
  split
  · unfold BM.add
    split
    · exact dr
    · exact fun e he => .inl he
  split
  · unfold BM.reserve
    split
    · exact fun e he => .inl he
    split
    · exact fun e he => .inl he
    · exact dr
  split
  · exact dr
  · exact fun e he => .inl he
theorem CalV.act {M : BM} {P : List Int} {n L k : Nat} (o : M.Ok L) (hk : k < M.n) (c : CalV M P n) (hkn : k < n) {t : AMv} (pt : PrivA k t) :
    CalV (M.act k t).1 (if t.2.1 = 5 then P else (cact M.sz P t).1) n ∧ (t.2.1 ≠ 5 → (M.act k t).2 = (cact M.sz P t).2) := by
  obtain ⟨a1, a2, a3, a4, a5⟩ := BM.act_n M k t
  obtain ⟨r1, r2⟩ := BM.act_alone (k := k) o t
  have csz := c.sz
  have cn := c.nn
  have cl := c.len
  have vl : (M.vcs k).length = M.cs.length := applyQ_len _ _
  have tin := pt.1.inn hkn
  obtain ⟨g1, g2, g3, g4⟩ := cact_agree (P := P) (V := M.vcs k) cl (by omega) (t := t) (by rw [cn]; exact tin) (c.see k _ hkn pt.1)
  obtain ⟨g1', g2', g3', g4'⟩ := cact_agree (P := M.vcs k) (V := P) (by omega) cl (t := t) (by rw [cn]; exact tin) (c.see k _ hkn pt.1).symm
  have vl' : ((M.act k t).1.vcs k).length = (M.act k t).1.cs.length := applyQ_len _ _
  have cl' : (M.act k t).1.cs.length = M.cs.length := by
    rw [← vl', r2]
    split
    · exact vl
    · omega
  have ok' : (M.act k t).1.Ok (L + 65) := BM.act_ok o hk t
  have own' : ∀ w, ∀ e ∈ (M.act k t).1.q w, ownC w e.1 := by
    intro w e he
    by_cases q : w = k
    · subst q
      rcases act_qk e he with q | ⟨q1, q2⟩
      · exact c.own w e q
      · rw [q2]; exact pt.2 q1
    · rw [a5 w q] at he; exact c.own w e he
  have Pl : ((if t.2.1 = 5 then P else (cact M.sz P t).1).length : Int) = M.sz := by split <;> assumption
  have low' : ∀ w a, 0 ≤ a ∧ a < 4 → atC ((M.act k t).1.vcs w) a = atC (M.act k t).1.cs a := fun w a ha => by
    rw [seen_q ok' w (by omega), seenW_none (fun e he z => by have q := own' w e he; rw [z] at q; unfold ownC at q; omega)]; rfl
  have seek : ∀ a, mayC k a → atC (if t.2.1 = 5 then P else (cact M.sz P t).1) a = atC ((M.act k t).1.vcs k) a := by
    intro a ha
    have := ha.inn hkn
    rw [r2]
    split
    · exact c.see k a hkn ha
    · exact g4 a (by omega) (c.see k a hkn ha)
  refine ⟨⟨own', by rw [a3]; exact Pl, by rw [a3, cl']; exact csz, by rw [a3]; exact cn, fun w a hw ha => ?_⟩, fun q => ?_⟩
  · by_cases q : w = k
    · subst q; exact seek a ha
    · have hin := ha.inn hw
      by_cases z : a < 4
      · rw [low' w a ⟨hin.1, z⟩, ← low' k a ⟨hin.1, z⟩]
        exact seek a (.inl ⟨hin.1, z⟩)
      · have hne : a ≠ t.2.2.1 := fun e => by
          have := pt.1
          unfold mayC at this ha
          omega
        have hq : ∀ e ∈ M.q k, e.1 ≠ a := fun e he z => by
          have h2 := c.own k e he
          rw [z] at h2
          unfold mayC at ha
          unfold ownC at h2
          omega
        rw [vcs_keep o ok' (a5 w q) cl' (by omega) (act_other o csz (by omega) hq hne), ← c.see w a hw ha]
        split
        · rfl
        · exact g3 a (by omega) hne
  · rw [r1, if_neg q]; exact g1.symm

/-! ### a play -/
def nfE (p : List (AMv × Eff)) : List Eff := (p.filter fun p => decide (p.1.2.1 ≠ 5)).map (·.2)
def whE (w : Nat) (p : List (Nat × Eff)) : List Eff := (p.filter fun p => decide (p.1 = w)).map (·.2)
theorem nfE_snoc (p : List (AMv × Eff)) (x : AMv × Eff) : nfE (p ++ [x]) = nfE p ++ (if x.1.2.1 ≠ 5 then [x.2] else []) := by
  unfold nfE
  rw [List.filter_append, List.map_append]
  congr 1
  rw [List.filter_cons, List.filter_nil]
  by_cases q : x.1.2.1 = 5
  · simp [q]
  · simp [q]
theorem whE_snoc (w : Nat) (p : List (Nat × Eff)) (x : Nat × Eff) : whE w (p ++ [x]) = whE w p ++ (if x.1 = w then [x.2] else []) := by
  unfold whE
  rw [List.filter_append, List.map_append]
  congr 1
  rw [List.filter_cons, List.filter_nil]
  by_cases q : x.1 = w
  · simp [q]
  · simp [q]
def cal0 (n : Nat) : CA := ⟨List.replicate (4 + 4 * n) 0, [], []⟩
structure CalI (ls : List (List AMv)) (s : PB) (od : List AMv) (wh : List Nat) : Prop where
  v : CalV s.m (CA.run s.m.sz (cal0 ls.length) od).cs ls.length
  lw : wh.length = od.length
  el : (CA.run s.m.sz (cal0 ls.length) od).es.length = od.length
  eff : ∀ w, nfE ((ls.getD w []).zip (s.e.getD w [])) = whE w (wh.zip (CA.run s.m.sz (cal0 ls.length) od).es)
theorem CalI.flush {ls : List (List AMv)} {s : PB} {L : Nat} (ok : s.Ok ls L) {od : List AMv} {wh : List Nat} (c : CalI ls s od wh) (k : Nat) : CalI ls { s with m := s.m.flush k } od wh := by
  have b3 := (s.m.flush_same k).2.2.1
  refine ⟨?_, c.lw, ?_, ?_⟩
  · show CalV (s.m.flush k) (CA.run (s.m.flush k).sz _ od).cs _
    rw [b3]; exact c.v.flush ok.m k
  · show (CA.run (s.m.flush k).sz _ od).es.length = _
    rw [b3]; exact c.el
  · intro w
    show _ = whE w (wh.zip (CA.run (s.m.flush k).sz _ od).es)
    rw [b3]; exact c.eff w
theorem CalI.act {ls : List (List AMv)} {s : PB} {L : Nat} (ok : s.Ok ls L) {od : List AMv} {wh : List Nat} (c : CalI ls s od wh) {k : Nat} (hk : k < ls.length) {t : AMv} (ht : (ls.getD k [])[(s.e.getD k []).length]? = some t) (pt : PrivA k t) :
    CalI ls ⟨(s.m.act k t).1, s.e.set k (s.e.getD k [] ++ [(s.m.act k t).2])⟩ (if t.2.1 = 5 then od else od ++ [t]) (if t.2.1 = 5 then wh else wh ++ [k]) := by
  have a3 := (BM.act_n s.m k t).2.2.1
  obtain ⟨v1, v2⟩ := c.v.act ok.m (by rw [ok.n]; exact hk) hk pt
  have zs : ∀ w, (ls.getD w []).zip ((s.e.set k (s.e.getD k [] ++ [(s.m.act k t).2])).getD w []) = (ls.getD w []).zip (s.e.getD w []) ++ (if w = k then [(t, (s.m.act k t).2)] else []) := by
    intro w
    rw [getD_set _ _ _ _ (by rw [ok.el]; exact hk)]
    by_cases q : w = k
    · subst q
      rw [if_pos rfl, if_pos rfl, zip_snoc _ _ _ _ ht]
    · rw [if_neg q, if_neg q, List.append_nil]
  by_cases q5 : t.2.1 = 5
  · rw [if_pos q5] at v1
    rw [if_pos q5, if_pos q5]
    refine ⟨?_, c.lw, ?_, fun w => ?_⟩
    · show CalV (s.m.act k t).1 (CA.run (s.m.act k t).1.sz _ od).cs _
      rw [a3]; exact v1
    · show (CA.run (s.m.act k t).1.sz _ od).es.length = _
      rw [a3]; exact c.el
    · show nfE ((ls.getD w []).zip ((s.e.set k _).getD w [])) = whE w (wh.zip (CA.run (s.m.act k t).1.sz _ od).es)
      rw [a3, zs w, ← c.eff w]
      by_cases q : w = k
      · rw [if_pos q, nfE_snoc, if_neg (fun z => z q5), List.append_nil]
      · rw [if_neg q, List.append_nil]
  · rw [if_neg q5] at v1
    rw [if_neg q5, if_neg q5]
    have hr : CA.run s.m.sz (cal0 ls.length) (od ++ [t]) = CA.step s.m.sz (CA.run s.m.sz (cal0 ls.length) od) t := by
      unfold CA.run
      rw [List.foldl_append]; rfl
    have hes : (CA.run s.m.sz (cal0 ls.length) (od ++ [t])).es = (CA.run s.m.sz (cal0 ls.length) od).es ++ [(s.m.act k t).2] := by
      rw [hr, v2 q5]; rfl
    refine ⟨?_, by rw [List.length_append, List.length_append, c.lw]; rfl, ?_, fun w => ?_⟩
    · show CalV (s.m.act k t).1 (CA.run (s.m.act k t).1.sz _ (od ++ [t])).cs _
      rw [a3, hr]; exact v1
    · show (CA.run (s.m.act k t).1.sz _ (od ++ [t])).es.length = _
      rw [a3, hes, List.length_append, List.length_append, c.el]; rfl
    · show nfE ((ls.getD w []).zip ((s.e.set k _).getD w [])) = whE w ((wh ++ [k]).zip (CA.run (s.m.act k t).1.sz _ (od ++ [t])).es)
      have hz : (wh ++ [k]).zip ((CA.run s.m.sz (cal0 ls.length) od).es ++ [(s.m.act k t).2]) = wh.zip (CA.run s.m.sz (cal0 ls.length) od).es ++ [(k, (s.m.act k t).2)] := by
        rw [List.zip_append (by rw [c.lw, c.el])]; rfl
      rw [a3, hes, hz, zs w, whE_snoc, ← c.eff w]
      by_cases q : w = k
      · rw [if_pos q, if_pos q.symm, nfE_snoc, if_pos q5]
      · rw [if_neg q, if_neg (fun z => q z.symm), List.append_nil, List.append_nil]
theorem CalI.start (ls : List (List AMv)) (rm : Nat) : CalI ls (PB.start ls.length rm ((4 + 4 * ls.length : Nat) : Int) (4 + 4 * ls.length)) [] [] := by
  refine ⟨⟨fun w e he => (by cases he), ?_, ?_, ?_, fun w a hw ha => rfl⟩, rfl, rfl, fun w => ?_⟩
  · show ((List.replicate (4 + 4 * ls.length) (0 : Int)).length : Int) = ((4 + 4 * ls.length : Nat) : Int)
    rw [List.length_replicate]
  · show ((4 + 4 * ls.length : Nat) : Int) = ((List.replicate (4 + 4 * ls.length) (0 : Int)).length : Int)
    rw [List.length_replicate]
  · show ((4 + 4 * ls.length : Nat) : Int) = _
    omega
  · have e : (PB.start ls.length rm ((4 + 4 * ls.length : Nat) : Int) (4 + 4 * ls.length)).e.getD w [] = [] := getD_rep _ w
    rw [e, List.zip_nil_right]; rfl

end Go.Mx
