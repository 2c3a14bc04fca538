/-
  ExploreFinals: explore.Finals; the law.
-/
import Derived.Test.YtipihecaaakagaaMxKy
import Derived.Test.YtipihecaaakagaaMb
import Derived.Test.YtipihecaaakagaaMxFh
set_option linter.unusedVariables false
set_option linter.unusedSimpArgs false
set_option linter.unusedSectionVars false
set_option maxRecDepth 100000
namespace Go.Mx

theorem run_overlaps {P : Program} {w : World} {ps rs : Array TypeId} {T e : TypeId} {i : TypeInfo} (hT : ps[0]? = some T) (hu : P.underlying T = some (.slice e)) (hi : P.info? e = some i) {p q : Addr} {la ca lb cb : Nat} (hne : p.block ≠ q.block)
    {x y : Array Value} {tx ty : TypeId} (hp : w.heap[p.block]? = some (.cells x tx (0, 0))) (hq : w.heap[q.block]? = some (.cells y ty (0, 0))) :
    (Extern.SlicesOverlaps.overlaps ps rs #[.slice (some p) la ca, .slice (some q) lb cb]).run P w = .ok (.bool false) w := by
  have f1 : w.frozen? p = false := by unfold World.frozen?; rw [hp]; simp
  have f2 : w.frozen? q = false := by unfold World.frozen?; rw [hq]; simp
  have s1 : w.shape? p.block = some (tx, x.size) := by unfold World.shape?; rw [hp]
  have s2 : w.shape? q.block = some (ty, y.size) := by unfold World.shape?; rw [hq]
  have g1 : ∀ n, w.frozen? { block := p.block, off := n } = false := fun n => by unfold World.frozen?; rw [hp]; simp
  have g2 : ∀ n, w.frozen? { block := q.block, off := n } = false := fun n => by unfold World.frozen?; rw [hq]; simp
  have hb : (p.block == q.block) = false := by simpa using hne
  obtain ⟨X, hX⟩ : ∃ X, X = (#[Value.slice (some p) la ca, Value.slice (some q) lb cb] : Array Value) := ⟨_, rfl⟩
  rw [← hX]
  delta Extern.SlicesOverlaps.overlaps
  dsimp only
  rw [hX]
  delta Extern.SlicesOverlaps.overlaps.match_4
  dsimp
  have a0 : ∀ (u v : Value) (h1 : (#[u, v] : Array Value).size = 2) (h2 : 0 < 2), (#[u, v] : Array Value).getLit 0 h1 h2 = u := fun _ _ _ _ => rfl
  have a1 : ∀ (u v : Value) (h1 : (#[u, v] : Array Value).size = 2) (h2 : 1 < 2), (#[u, v] : Array Value).getLit 1 h1 h2 = v := fun _ _ _ _ => rfl
  rw [a0, a1]
  delta Extern.SlicesOverlaps.overlaps._sparseCasesOn_4
  dsimp
  rw [hT]
  simp only [Sem.run_bind, run_underlying hu, sizeOf, typeInfo, run_program, hi, Result.andThen_ok, Sem.run_pure]
  split
  · rfl
  · simp [f1, f2, s1, s2, g1, g2, hb, bne, noView, viewAt, mayBeOne, stringish, Result.andThen]
theorem cells_at {h : Heap} {w : World} (s : Sub h w) {b : Nat} {cs : List Value} (e : h b = some (.cells cs false)) : ∃ (t : TypeId), w.heap[b]? = some (.cells cs.toArray t (0, 0)) := by
  obtain ⟨x, hx, t, f, rfl, hf⟩ := s _ _ e
  exact ⟨t, by rw [hx, hf rfl]⟩
theorem run_overlaps0 {P : Program} {w : World} {ps rs : Array TypeId} {T e : TypeId} {i : TypeInfo} (hT : ps[0]? = some T) (hu : P.underlying T = some (.slice e)) (hi : P.info? e = some i) {p : Addr} {la ca lb cb : Nat} :
    (Extern.SlicesOverlaps.overlaps ps rs #[.slice (some p) la ca, .slice none lb cb]).run P w = .ok (.bool false) w := by
  obtain ⟨X, hX⟩ : ∃ X, X = (#[Value.slice (some p) la ca, Value.slice none lb cb] : Array Value) := ⟨_, rfl⟩
  rw [← hX]
  delta Extern.SlicesOverlaps.overlaps
  dsimp only
  rw [hX]
  delta Extern.SlicesOverlaps.overlaps.match_4
  dsimp
  have a0 : ∀ (u v : Value) (h1 : (#[u, v] : Array Value).size = 2) (h2 : 0 < 2), (#[u, v] : Array Value).getLit 0 h1 h2 = u := fun _ _ _ _ => rfl
  have a1 : ∀ (u v : Value) (h1 : (#[u, v] : Array Value).size = 2) (h2 : 1 < 2), (#[u, v] : Array Value).getLit 1 h1 h2 = v := fun _ _ _ _ => rfl
  rw [a0, a1]
  delta Extern.SlicesOverlaps.overlaps._sparseCasesOn_4
  dsimp
  rw [hT]
  simp only [Sem.run_bind, run_underlying hu, sizeOf, typeInfo, run_program, hi, Result.andThen_ok, Sem.run_pure]
def overOk (P : Program) (fn : Func) : Bool := match fn.params[0]? with
  | some T => match P.underlying T with
    | some (.slice e) => (P.info? e).isSome
    | _ => false
  | none => false
theorem overOk_spec {P : Program} {fn : Func} (h : overOk P fn = true) : ∃ T e i, fn.params[0]? = some T ∧ P.underlying T = some (.slice e) ∧ P.info? e = some i := by
  unfold overOk at h
  split at h
  · rename_i T hT
    split at h
    · rename_i e he
      obtain ⟨i, hi⟩ := Option.isSome_iff_exists.1 h
      exact ⟨T, e, i, hT, he, hi⟩
    · cases h
  · cases h
theorem overT {P : Program} {f : FuncId} {fn : Func} (hf : P.funcs[f]? = some fn) (hname : (fn.name == "runtime.NumGoroutine") = false) (hb : fn.body.isNone = true) (hn : Extern.findNext fn = none) (he : Extern.find fn = some (Extern.SlicesOverlaps.overlaps fn.params fn.resultTypes))
    (ho : overOk P fn = true) {a b : Sl} {p : Nat} {cs : List Value} {h : Heap} {Q : Bool → Heap → Prop} (ha : a.a = some (ptr p)) (hp : h p = some (.cells cs false))
    (hq : ∀ q, b.a = some q → q.block ≠ p ∧ ∃ cs, h q.block = some (.cells cs false)) (hQ : Q false h) : ExtT P f [Kd.val .sl a, Kd.val .sl b] false .bool h Q := fun w hw => by
  obtain ⟨T, e, i, hT, hu, hi⟩ := overOk_spec ho
  refine ⟨false, h, w, ?_, Inv.refl hw, hQ⟩
  rw [run_callFunc_extern hf hname hb hn he]
  show ((Extern.SlicesOverlaps.overlaps fn.params fn.resultTypes #[.slice a.a a.len a.cap, .slice b.a b.len b.cap]).run P w).andThen _ = _
  rw [ha]
  cases hb' : b.a with
  | none => rw [run_overlaps0 hT hu hi]; rfl
  | some q =>
    obtain ⟨h1, cs2, h2⟩ := hq q hb'
    obtain ⟨t1, w1⟩ := cells_at hw hp
    obtain ⟨t2, w2⟩ := cells_at hw h2
    rw [run_overlaps hT hu hi (p := ptr p) (q := q) (fun z => h1 z.symm) w1 w2]
    rfl

section
variable {h : Heap} {s : Sc} {bs : List Int} {xss : List (List Ac)} (r : ScR h s bs xss) (hs : Small bs xss)
  {cK : Sc → Heap → (Int → Heap → Prop) → Prop} {cT : Sc → Heap → (Value → Heap → Prop) → Prop} {cR : Value → Value → Heap → (Unit → Heap → Prop) → Prop} {fv : Option Addr → Value}
  {cP : Sc → Sl → Heap → (Den kapiEnding → Heap → Prop) → Prop} {cB : Sl → Sl → Value → Heap → ((Int × (Bool × Unit)) → Heap → Prop) → Prop} {cI : Sl → Int → Sl → Heap → (Sl → Heap → Prop) → Prop}
  {cC : Option Nat → Heap → (Option Nat → Heap → Prop) → Prop} {cA : Option Addr → Int → Heap → (Ac → Heap → Prop) → Prop} {cD : Sc → Ac → Ac → Heap → (Bool → Heap → Prop) → Prop}
  {F : Option Addr → Option Nat → Value → Heap → (Bool → Heap → Prop) → Prop} {cS : Sl → Heap → (Sl → Heap → Prop) → Prop} {cY : Value → Sl → Heap → (Bool → Heap → Prop) → Prop}
  (i1 : ∀ {k : Heap} {Q : Int → Heap → Prop}, le h k → Q (chkE s.1 bs.length xss) k → cK s k Q)
  (iT : ∀ {k : Heap} {Q : Value → Heap → Prop}, (∀ p k', k p = none → Obj k' p kapiScene s → le k k' → Q (fv (some (ptr p))) k') → cT s k Q)
  (iR : ∀ {p : Nat} {y : Value} {k : Heap} {Q : Unit → Heap → Prop}, explore_traces_1.M F y (some (ptr p)) k Q → cR (fv (some (ptr p))) y k Q)
  (iP : ∀ {k : Heap} {u : Sl} {q : List Int} {Q : Den kapiEnding → Heap → Prop}, le h k → chkE s.1 bs.length xss = 0 → ScriptP (xss.map List.length) q → Arr k ki u q → q.length ≤ 1048576 → (∀ e h', EndR k h' e (playP s.1 bs xss q) → Q e h') → cP s u k Q)
  (iB : ∀ {h0 k : Heap} {o t : Sl} {els : List Sl} {l : List (List Int)} {q : List Int} {Q : (Int × (Bool × Unit)) → Heap → Prop}, Nest h0 k ki o els l → Srt l → Arr k ki t q → l.length ≤ 2000000 → (∀ xs ∈ l, xs.length ≤ 64) →
    (∀ m : Nat, m ≤ l.length → (∀ k xs, l[k]? = some xs → (k < m ↔ cmpC xs q < 0)) → Q ((m : Int), (decide (l[m]? = some q), ())) k) → cB o t (Value.func (.func 54) #[] #[]) k Q)
  (iI : ∀ {h0 k : Heap} {o c : Sl} {els : List Sl} {p j : Nat} {Q : Sl → Heap → Prop}, New h0 k .sl o els → j ≤ els.length → k p = some (.cells (([c] : List (Den .sl)).flatMap (Kd.cells .sl)) false) → ¬ blkOf o p → els.length ≤ 2000000 →
    (∀ o' h', New h0 h' .sl o' (els.take j ++ c :: els.drop j) → Ext (blkOf o) k h' → (∀ x, blkOf o' x → blkOf o x ∨ k x = none) → Q o' h') → cI o (j : Int) ⟨some (ptr p), 1, 1⟩ k Q)
  (iC : ∀ {m : Nat} {h : Heap} {l : List (Int × Int)} {Q : Option Nat → Heap → Prop}, MapIs h m ki ki l → (∀ m' h', h m' = none → MapIs h' m' ki ki l → le h h' → Q (some m') h') → cC (some m) h Q)
  (iA : ∀ {p i h Q}, explore_walk_act.M p i h Q → cA p i h Q)
  (iD : ∀ {x y : Ac} {h : Heap} {Q : Bool → Heap → Prop}, (∀ b : Bool, (b = true ↔ DepI s.1 (s.2.1.len : Int) x.2.1 x.2.2.1 x.2.2.2.1 y.2.1 y.2.2.1 y.2.2.2.1) → Q b h) → cD s x y h Q)
  (jF : ∀ {p m y h Q}, explore_walk_down.M cC cA cD F cS cY p m y h Q → F p m y h Q)
  (iS : ∀ {t : Sl} {h : Heap} {xs : List Int} {Q : Sl → Heap → Prop}, Arr h ki t xs → t.len ≤ 2097152 → (∀ r h', New h h' ki r xs → Q r h') → cS t h Q)
include r hs iC iA iD jF iS i1 iT iR iP iB iI
theorem finals_spec {Q : (Sl × (Int × Unit)) → Heap → Prop} (hQ : ∀ o h', FoR h h' o (finP s.1 bs xss (chkE s.1 bs.length xss)) → Q (o, (chkE s.1 bs.length xss, ())) h') : explore_Finals.M cK cT cP cB cI cY cR s h Q := by
  refine Obj.new (k := kapiScene) (x := s) fun p3 H hp3 ob3 lH => ?_
  have e0 : (ptr p3).add 0 = ptr p3 := rfl
  have rdS : ∀ {k : Heap} {K : Sc → Prop}, le H k → K s → ld kapiScene k (ptr p3) K := fun {k K} l hK =>
    (e0 ▸ (ob3.le l).ld (k := kapiScene) (kf := kapiScene) (y := s) (off := 0) ⟨[], [], by simp, rfl⟩ hK : ld kapiScene k (ptr p3) _)
  refine rdS (.refl _) (i1 lH ⟨fun d => ?_, fun d => ?_⟩)
  · have d : chkE s.1 bs.length xss ≠ 0 := of_decide_eq_true d
    refine hQ _ H ⟨[], ?_⟩
    unfold finP; rw [if_neg d]; exact (Nest.nil H ki).base lH
  have d : ¬ chkE s.1 bs.length xss ≠ 0 := of_decide_eq_false d
  have hc : chkE s.1 bs.length xss = 0 := Decidable.not_not.1 d
  obtain ⟨hz0, hz1, hz2, hx4, ha, hbad⟩ := chkE_ok hc
  rw [hc] at hQ
  have hQ' : ∀ o h', FoR h h' o (finL s.1 bs xss (expS s.1 bs.length xss)) → Q (o, (0, ())) h' := fun o h' f => hQ o h' (by unfold finP; rw [if_pos rfl]; exact f)
  have rH := r.le lH
  refine Obj.new (k := .sl) (x := (Kd.zero .sl)) fun b h6 hb ob6 l6 => ?_
  refine rdS l6 (iT fun p h8 hp ob8 l8 => ?_)
  intro l9 d10 L11 hl9 hd10 hne hround
  have hbl : h8 b ≠ none := (ob6.le l8).live
  have hbn9 : b ≠ l9 := fun q => hbl (by rw [q]; exact hl9)
  have hbn10 : b ≠ d10 := fun q => hbl (by rw [q]; exact hd10)
  have l68 := l6.trans l8
  have h09 : H l9 = none := l68.none hl9
  have h010 : H d10 = none := l68.none hd10
  let hE := upd (upd h8 d10 (.raw (.deferred (some [])))) l9 (.raw (L11 false))
  have lE : le h8 hE := (le_upd hd10 _).trans (le_upd (by rw [upd_ne _ _ hne]; exact hl9) _)
  let J : List (List Int) → (Nat → Prop) → Heap → Prop := fun dd S k => ∃ lst els, Obj k b .sl lst ∧ Nest H k ki lst els (finL s.1 bs xss dd) ∧ k l9 = some (.raw (L11 false)) ∧ k d10 = some (.raw (.deferred (some []))) ∧ (∀ x, S x ↔ (x = b ∨ x = l9 ∨ x = d10 ∨ fpN lst els x)) ∧ ∀ x, fpN lst els x → x ≠ b ∧ x ≠ l9 ∧ x ≠ d10
  refine iR (traces_spec (J := J) rH hs iC iA iD jF iS ?_ ?_ hc ?_ (S := fun x => x = b ∨ x = l9 ∨ x = d10) (ob8.le lE) (l68.trans lE) ?_ ?_ ?_)
  · rintro dd S k T k' ⟨lst, els, j1, j2, j3, j4, j5, j6⟩ e n f
    exact ⟨lst, els, j1.ext e (n b ((j5 b).2 (.inl rfl))), j2.ext e (fun x hx => n x ((j5 x).2 (.inr (.inr (.inr hx))))) f, e.1 _ _ j3 (n l9 ((j5 l9).2 (.inr (.inl rfl)))), e.1 _ _ j4 (n d10 ((j5 d10).2 (.inr (.inr (.inl rfl))))), j5, j6⟩
  · rintro dd S k x ⟨lst, els, j1, j2, j3, j4, j5, j6⟩ hx
    rcases (j5 x).1 hx with rfl | rfl | rfl | hx
    · exact j1.live
    · rw [j3]; exact fun q => by cases q
    · rw [j4]; exact fun q => by cases q
    · exact j2.live hx
  · -- one more script
    rintro dd S k sl q K ⟨lst, els, j1, j2, j3, j4, j5, j6⟩ nsl ap sf hdl hS hK
    have hls : ¬ blkOf sl l9 := fun q => ap l9 q ((j5 l9).2 (.inr (.inl rfl)))
    refine hround sl k K j3 ⟨j3, ?_⟩
    have xU : Ext (fun x => x = l9) k (upd k l9 (.raw (L11 true))) := ext_one (by rw [j3]; exact fun q => by cases q) (fun c hc => upd_ne _ _ hc) (by rw [upd_same]; exact fun q => by cases q)
    have jU := j1.ext xU hbn9
    have nU := j2.ext xU (fun x hx => (j6 x hx).2.1) (fun x hx => by rw [hx]; exact h09)
    have slU := nsl.ext xU (fun x hx q => hls (by rw [← q]; exact hx)) (fun x hx => by rw [hx]; exact h09)
    have hq10 := ten hs.2.1 hs.2.2 hc hS
    have dU : (upd k l9 (.raw (L11 true))) d10 = some (.raw (.deferred (some []))) := by rw [upd_ne _ _ (fun q => hne q.symm)]; exact j4
    have lU : (upd k l9 (.raw (L11 true))) l9 = some (.raw (L11 true)) := upd_same _ _ _
    refine rdS nU.le (iP (lH.trans nU.le) hc hS slU.arr (by omega) fun en h21 eR => ?_)
    have l21 := eR.le
    obtain ⟨_, _, n15, _⟩ := eR
    have j21 := jU.le l21
    have n21 := nU.more l21
    have lk21 := l21 _ _ lU
    have dk21 := l21 _ _ dU
    have hfl : (finL s.1 bs xss dd).length ≤ 2000000 := Nat.le_trans (finL_len _) hdl
    have hel := n21.len
    have hol := n21.out.len
    have hsm : ∀ xs ∈ finL s.1 bs xss dd, xs.length ≤ 64 := fun xs hx => by
      obtain ⟨q', _, rfl⟩ := finL_mem.1 hx
      exact playP_small hz2 hz1 q'
    have cap : ∀ x, blkOf en.2.1 x → ¬ fpN lst els x := fun x hx hy => nU.live hy (n15.new x hx)
    refine j21.ld (k := .sl) (kf := .sl) (y := lst) (off := 0) ⟨[], [], by simp, rfl⟩ ?_
    refine iB n21 (finL_srt _) n15.arr hfl hsm fun m hm hmm => ⟨fun z => ?_, fun z => ?_⟩
    · -- it is new
      have hnot : (finL s.1 bs xss dd)[m]? ≠ some (playP s.1 bs xss q).1 := fun e => by
        have z : (!decide ((finL s.1 bs xss dd)[m]? = some (playP s.1 bs xss q).1)) = true := z
        rw [decide_eq_true e] at z; cases z
      refine j21.ld (k := .sl) (kf := .sl) (y := lst) (off := 0) ⟨[], [], by simp, rfl⟩ ?_
      intro p26 hp26
      have l27 := le_upd hp26 (.cells (([en.2.1] : List (Den .sl)).flatMap (Kd.cells .sl)) false)
      have n27 := n21.more l27
      refine iI n27.out (by omega) (upd_same _ _ _) (fun hx => n21.live (.inl hx) hp26) (by omega) fun lst' h29 n29 x29 b29 => ?_
      have hbl' : ¬ blkOf lst b := fun q => (j6 b (.inl q)).1 rfl
      have hll' : ¬ blkOf lst l9 := fun q => (j6 l9 (.inl q)).2.1 rfl
      have hdl' : ¬ blkOf lst d10 := fun q => (j6 d10 (.inl q)).2.2 rfl
      have j29 := (j21.le l27).ext x29 hbl'
      refine j29.st (k := .sl) (kf := .sl) (x' := lst') (off := 0) rfl (by decide) rfl fun h30 ob30 x30 => ?_
      have l30 : h30 l9 = some (.raw (L11 true)) := x30.1 _ _ (x29.1 _ _ (l27 _ _ lk21) hll') (fun q => hbn9 q.symm)
      have d30 : h30 d10 = some (.raw (.deferred (some []))) := x30.1 _ _ (x29.1 _ _ (l27 _ _ dk21) hdl') (fun q => hbn10 q.symm)
      have c27 := (n15.more l27).base nU.le
      have nI := n27.ins c27 cap (j := m) (by omega) n29 x29 b29
      have hput : putC (finL s.1 bs xss dd) (playP s.1 bs xss q).1 = (finL s.1 bs xss dd).take m ++ (playP s.1 bs xss q).1 :: (finL s.1 bs xss dd).drop m := putC_at hm (fun x hx => by
          obtain ⟨i, hi⟩ := List.mem_iff_getElem?.1 hx
          rw [List.getElem?_take] at hi
          split at hi
          · rename_i him; exact (hmm i x hi).1 him
          · cases hi) (fun x hx => by
          have h1 : ¬ cmpC x (playP s.1 bs xss q).1 < 0 := fun z => absurd ((hmm m x hx).2 z) (Nat.lt_irrefl _)
          have h2 : cmpC x (playP s.1 bs xss q).1 ≠ 0 := fun z => hnot (by rw [hx, cmpC_zero.1 z])
          exact cmpC_cases _ _ h2 h1)
      rw [← hput, ← finL_snoc] at nI
      have fpI : ∀ x, fpN lst' (els.take m ++ en.2.1 :: els.drop m) x → fpN lst els x ∨ k x = none := fun x hx => by
        have kn : h21 x = none → k x = none := fun z => xU.2 x (l21.none z)
        rcases hx with hx | ⟨t, ht, hx⟩
        · rcases b29 x hx with z | z
          · exact .inl (.inl z)
          · exact .inr (kn (l27.none z))
        · rcases List.mem_append.1 ht with ht | ht
          · exact .inl (.inr ⟨t, List.mem_of_mem_take ht, hx⟩)
          · rcases List.mem_cons.1 ht with rfl | ht
            · exact .inr (xU.2 x (n15.new x hx))
            · exact .inl (.inr ⟨t, List.mem_of_mem_drop ht, hx⟩)
      have fpI2 : ∀ x, fpN lst' (els.take m ++ en.2.1 :: els.drop m) x → x ≠ b ∧ x ≠ l9 ∧ x ≠ d10 := fun x hx => by
        rcases fpI x hx with z | z
        · exact j6 x z
        · refine ⟨fun y => ?_, fun y => ?_, fun y => ?_⟩
          · rw [y] at z; exact j1.live z
          · rw [y, j3] at z; cases z
          · rw [y, j4] at z; cases z
      have n30 := nI.ext x30 (fun x hx z => (fpI2 x hx).1 z) (fun x z => by rw [z]; exact hb)
      refine ⟨l30, ?_⟩
      have xF : Ext (fun x => x = l9) h30 (upd h30 l9 (.raw (L11 false))) := ext_one (by rw [l30]; exact fun q => by cases q) (fun c hc => upd_ne _ _ hc) (by rw [upd_same]; exact fun q => by cases q)
      have nF := n30.ext xF (fun x hx => (fpI2 x hx).2.1) (fun x hx => by rw [hx]; exact h09)
      refine hK (fun x => x = b ∨ x = l9 ∨ x = d10 ∨ fpN lst' (els.take m ++ en.2.1 :: els.drop m) x) _ ⟨lst', _, ob30.ext xF hbn9, nF, upd_same _ _ _, by rw [upd_ne _ _ (fun q => hne q.symm)]; exact d30, fun x => Iff.rfl, fpI2⟩ ⟨?_, fun x hx => ?_⟩
      · refine ((((xU.mono fun x q => ?_).trans l21.toExt).trans l27.toExt).trans (x29.mono fun x q => ?_)).trans ((x30.mono fun x q => ?_).trans (xF.mono fun x q => ?_))
        · exact .inl ((j5 x).2 (.inr (.inl q)))
        · exact .inl ((j5 x).2 (.inr (.inr (.inr (.inl q)))))
        · exact .inl ((j5 x).2 (.inl q))
        · exact .inl ((j5 x).2 (.inr (.inl q)))
      · rcases hx with hx | hx | hx | hx
        · exact .inl (.inl ((j5 x).2 (.inl hx)))
        · exact .inl (.inl ((j5 x).2 (.inr (.inl hx))))
        · exact .inl (.inl ((j5 x).2 (.inr (.inr (.inl hx)))))
        · rcases fpI x hx with z | z
          · exact .inl (.inl ((j5 x).2 (.inr (.inr (.inr z)))))
          · exact .inr z
    · -- it is there
      have hin : (finL s.1 bs xss dd)[m]? = some (playP s.1 bs xss q).1 := by
        have z : (!decide ((finL s.1 bs xss dd)[m]? = some (playP s.1 bs xss q).1)) = false := z
        rw [Bool.not_eq_false'] at z
        exact of_decide_eq_true z
      have hput := putC_in (finL_srt dd) (List.mem_of_getElem? hin)
      refine ⟨lk21, ?_⟩
      have xF : Ext (fun x => x = l9) h21 (upd h21 l9 (.raw (L11 false))) := ext_one (by rw [lk21]; exact fun q => by cases q) (fun c hc => upd_ne _ _ hc) (by rw [upd_same]; exact fun q => by cases q)
      have nF := n21.ext xF (fun x hx => (j6 x hx).2.1) (fun x hx => by rw [hx]; exact h09)
      rw [← hput, ← finL_snoc] at nF
      refine hK S _ ⟨lst, els, j21.ext xF hbn9, nF, upd_same _ _ _, by rw [upd_ne _ _ (fun q => hne q.symm)]; exact dk21, j5, j6⟩ ⟨?_, fun x hx => .inl (.inl hx)⟩
      refine ((xU.mono fun x q => ?_).trans l21.toExt).trans (xF.mono fun x q => ?_)
      · exact .inl ((j5 x).2 (.inr (.inl q)))
      · exact .inl ((j5 x).2 (.inr (.inl q)))
  · have nE := (Nest.nil H ki).more (l68.trans lE)
    exact ⟨⟨none, 0, 0⟩, [], ob6.le (l8.trans lE), nE, upd_same _ _ _, by show upd (upd h8 d10 _) l9 _ d10 = _; rw [upd_ne _ _ (fun q => hne q.symm)]; exact upd_same _ _ _, fun x => ⟨fun q => by
      rcases q with q | q | q
      · exact .inl q
      · exact .inr (.inl q)
      · exact .inr (.inr (.inl q)), fun q => by
      rcases q with q | q | q | q
      · exact .inl q
      · exact .inr (.inl q)
      · exact .inr (.inr q)
      · rcases q with q | ⟨t, ht, _⟩
        · exact absurd q no_blk
        · cases ht⟩, fun x hx => by
      rcases hx with q | ⟨t, ht, _⟩
      · exact absurd q no_blk
      · cases ht⟩
  · rintro x (rfl | rfl | rfl)
    · exact hb
    · exact h09
    · exact h010
  · rintro S' h21 ⟨lst, els, j1, j2, j3, j4, j5, j6⟩ l21 sf
    refine ⟨j3, j4, ?_⟩
    have obD : Obj (drop2 h21 l9 d10) b .sl lst := by show drop2 h21 l9 d10 b = _; rw [drop2_ne hbn9 hbn10]; exact j1
    have lD : le H (drop2 h21 l9 d10) := fun x o ho => by
      rw [drop2_ne (fun q => by rw [q, h09] at ho; cases ho) (fun q => by rw [q, h010] at ho; cases ho)]
      exact l21 x o ho
    refine obD.ld (k := .sl) (kf := .sl) (y := lst) (off := 0) ⟨[], [], by simp, rfl⟩ ?_
    exact hQ' lst _ ⟨els, (j2.sub (fun x hx => drop2_ne (j6 x hx).2.1 (j6 x hx).2.2) lD).base lH⟩
end
end Go.Mx
