/-
  The law BuffersOrder.
-/
import Derived.Test.YtppehoailhjdfabMxBi
set_option linter.unusedVariables false
set_option linter.unusedSimpArgs false
set_option linter.unusedSectionVars false
namespace Go.Mx

theorem PB.step_room (ls : List (List AMv)) (s : PB) (x : Int) : (PB.step ls s x).m.room = s.m.room := by
  unfold PB.step
  dsimp only
  split
  · exact (BM.flush_same _ _).2.1
  · split
    · exact (BM.act_n _ _ _).2.1
    · rfl
theorem PB.run_room (ls : List (List AMv)) : ∀ (ps : List Int) (s : PB), (PB.run ls s ps).m.room = s.m.room
  | [], _ => rfl
  | x :: ps, s => (PB.run_room ls ps _).trans (PB.step_room ls s x)
def FewC (b : Bool) (f : List AMv → List AMv) (c : Sl → Bool → Heap → (Sl → Heap → Prop) → Prop) : Prop := ∀ {lists : Sl} {h : Heap} {ls : List (List AMv)} {Q : Sl → Heap → Prop}, Arr2 h KMv lists ls → (∀ t h', Arr2 h' KMv t (fewP f ls) → Go.Mx.le h h' → Q t h') → c lists b h Q
def SameWC (c : Sl → Sl → Heap → (Bool → Heap → Prop) → Prop) : Prop := ∀ {a b : Sl} {h : Heap} {xs : List Wait} {Q : Bool → Heap → Prop}, Arr h KWt a xs → Arr h KWt b xs → xs.length ≤ 1000000000 → Q true h → c a b h Q
def ProgC (c : Den KRun → Sl → Sl → Heap → (Bool → Heap → Prop) → Prop) : Prop := ∀ {r : Den KRun} {l picks : Sl} {h : Heap} {ls : List (List AMv)} {ps : List Int} {esl : List Sl} {s0 : PB} {Q : Bool → Heap → Prop}, Arr2 h KMv l ls → Arr h ki picks ps → Arr h .sl r.1 esl → 1 ≤ ls.length → ls.length ≤ 8 → ps.length ≤ 1048576 → (∀ x ∈ ls, x.length ≤ 4096) →
  s0.Ok ls 0 → s0.e = List.replicate ls.length [] → esl.length = ls.length → (∀ (i : Nat) sl, esl[i]? = some sl → sl.len = ((PB.run ls s0 ps).e.getD i []).length) → (∀ h', Go.Mx.le h h' → Q true h') → c r l picks h Q
theorem progC_of {cm} (iM : ModC cm) : ProgC (law21_progress.M cm) := fun a b c d e f g i j k l m => progress_spec iM a b c d e f g i j k l m

theorem fewP_le {f : List AMv → List AMv} {m : Nat} (hf : ∀ l, l.length ≤ 1000 → (f l).length ≤ m) {ls : List (List AMv)} : ∀ x ∈ fewP f ls, x.length ≤ m := by
  intro x hx
  unfold fewP at hx
  split at hx
  · obtain rfl : x = [] := by simpa using hx
    exact Nat.zero_le _
  · obtain ⟨l, _, rfl⟩ := List.mem_map.1 hx
    exact hf _ (List.length_take_le ..)
/-- The bounds that the laws set are kept. -/
theorem judgedB {f : List AMv → List AMv} (hf : ∀ l, l.length ≤ 1000 → (f l).length ≤ 4096) {size used room : Int} {ls : List (List AMv)} {np : Nat} (hnp : np ≤ 1048576) : judgedP (used % 17 + size % 9) (used % 17) (1 + room % 64) (fewP f ls) np = 0 := by
  have hl := fewP_len (f := f) (ls := ls)
  unfold judgedP
  rw [if_neg (by omega), if_neg (by omega), if_neg (by omega), if_neg]
  intro q
  obtain ⟨l, h1, h2⟩ := List.any_eq_true.1 q
  have h3 := fewP_le hf l h1
  have h2 : 4096 < l.length := of_decide_eq_true h2
  omega

section
variable {cw : Sl → Sl → Heap → (Bool → Heap → Prop) → Prop} (iW : SameWC cw)
include iW
theorem order_loop {hR : Heap} {r : Den KRun} {ls : List (List AMv)} {st : PB} {els wls : List Sl} {dn : Bool} {h : Heap} (R : RunR h hR r ls.length st els wls dn) {l : Sl} (hl : Arr2 hR KMv l ls) (ok : st.Ok ls 80000000) (oi : OrdI ls st) (hn8 : ls.length ≤ 8) (h4 : ∀ x ∈ ls, x.length ≤ 4096) {room : Int} (hrm : (st.m.room : Int) = room) {w3 : Unit}
    {size used : Int} {g0 : Heap} (l0 : Go.Mx.le hR g0) {Q : Bool → Heap → Prop} (hQ : ∀ h', Go.Mx.le hR h' → Q true h') {e : Int} : law21_BuffersOrder.j12 cw Q (size, (used, (room, w3))) l (r, (e, ())) () g0 := by
  have hll := hl.len
  obtain ⟨sls, l1, l2, l3⟩ := hl
  obtain ⟨⟨ea, en, ec⟩, ⟨wa, wn, wc⟩, rc, rl, rd, u⟩ := r
  obtain ⟨Re, Rw, Rc, Rl, Rd, -, -, -⟩ := R
  dsimp only at Re Rw Rc Rl
  have eln := Re.out.len
  have elen := Re.len
  have wln := Rw.out.len
  have wlen := Rw.len
  have hel := ok.el
  rw [List.length_map, List.length_range] at wlen
  obtain ⟨la, ln, lc⟩ := l
  have l1n := l1.1
  dsimp only at hll l1n eln wln
  refine Loop.up ls.length (fun s => s.1) (fun i _ g => Go.Mx.le hR g) rfl l0 ?_
  rintro w ⟨w', u'⟩ g1 go hw hc lg1 hgo
  dsimp only at hc; subst hc
  refine ⟨fun q => ?_, fun q => hQ g1 lg1⟩
  have q : (w : Int) < (ln : Int) := of_decide_eq_true q
  have hwl : w < ls.length := by omega
  cases la with
  | none => obtain ⟨a, e⟩ := l1.addr (by dsimp only; omega); cases e
  | some la =>
  cases ea with
  | none => obtain ⟨a, e⟩ := Re.out.arr.addr (by dsimp only; omega); cases e
  | some ea =>
  cases wa with
  | none => obtain ⟨a, e⟩ := Rw.out.arr.addr (by dsimp only; omega); cases e
  | some wa =>
  have hei : els[w]? = some (els[w]'(by omega)) := by simp
  have hsi : st.e[w]? = some (st.e[w]'(by omega)) := by simp
  have hli : sls[w]? = some (sls[w]'(by omega)) := by simp
  have hxi : ls[w]? = some ls[w] := by simp
  have hwi : wls[w]? = some (wls[w]'(by omega)) := by simp
  have hqi : ((List.range ls.length).map st.m.q)[w]? = some (st.m.q w) := by simp [hwl]
  have ge : st.e.getD w [] = st.e[w]'(by omega) := by rw [List.getD_eq_getElem?_getD, hsi]; rfl
  have gl : ls.getD w [] = ls[w] := by rw [List.getD_eq_getElem?_getD, hxi]; rfl
  have erow := Re.row w _ _ hei hsi
  have lrow := l3 w _ _ hli hxi
  have wrow := Rw.row w _ _ hwi hqi
  have er := ok.er w
  rw [ge, gl] at er
  have x4 := h4 ls[w] (List.getElem_mem hwl)
  have sto := oi.2 w
  rw [ge, gl] at sto
  generalize els[w]'(by omega) = esl at hei erow
  generalize sls[w]'(by omega) = lsl at hli lrow
  generalize wls[w]'(by omega) = wsl at hwi wrow
  generalize st.e[w]'(by omega) = E at erow er sto
  generalize ls[w] = X at lrow er x4 sto
  have el1 := erow.len
  have ll1 := lrow.1
  have wl1 := wrow.len
  have rll := Rl.len
  have hlg := ok.m.lg
  have hql := ok.m.ql w
  refine Loop.up E.length (fun s => s.2.1) (fun k s g => New g1 g KWt s.1 (madeP X (E.take k))) rfl (by
    have : madeP X (E.take 0) = [] := by rw [List.take_zero]; unfold madeP; rw [List.zip_nil_right]; rfl
    rw [this]; exact New.nil g1 KWt) ?_
  rintro k ⟨mm, k', u2⟩ g2 go2 hk hc n2 hgo2
  dsimp only at hc n2; subst hc
  have lg2 := lg1.trans n2.le
  have n2l := n2.len
  have mle : (madeP X (E.take k)).length ≤ 4096 := by
    unfold madeP
    rw [List.length_map]
    refine Nat.le_trans (List.length_filter_le ..) ?_
    rw [List.length_zip]; omega
  refine ⟨⟨by omega, by dsimp only; omega⟩, (Re.out.arr.le lg2).atA (i := (w : Int)) (by omega) (by omega) rfl fun a ha => ?_⟩
  rw [Int.toNat_natCast, hei] at ha
  cases ha
  refine ⟨fun f => ?_, fun f => ?_⟩
  · have f : (k : Int) < (esl.len : Int) := of_decide_eq_true f
    have hkE : k < E.length := by omega
    have hkX : X[k]? = some (X[k]'(by omega)) := by simp
    have hkE' : E[k]? = some E[k] := by simp
    have snoc := madeP_snoc (l := X) (e := E.take k) (t := X[k]'(by omega)) (f := E[k]) (by rw [List.length_take, Nat.min_eq_left (by omega)]; exact hkX)
    rw [← take_succ' E hkE] at snoc
    generalize X[k]'(by omega) = t at hkX snoc
    generalize E[k] = ff at hkE' snoc
    have next : w64 ((k : Int) + 1) = ((k + 1 : Nat) : Int) := by rw [w64_of] <;> omega
    have idle : isMade (t, ff) ≠ true → New g1 g2 KWt mm (madeP X (E.take (k + 1))) := fun z => by
      rw [snoc, if_neg z, List.append_nil]; exact n2
    obtain ⟨xa, xn, xc⟩ := lsl
    obtain ⟨fa, fn, fc⟩ := esl
    dsimp only at f ll1 el1
    cases xa with
    | none => obtain ⟨a, e⟩ := lrow.addr (by dsimp only; omega); cases e
    | some xa =>
    cases fa with
    | none => obtain ⟨a, e⟩ := erow.arr.addr (by dsimp only; omega); cases e
    | some fa =>
    have rdX : ∀ {off : Nat} {v : Int} {K : Int → Prop}, PartAt KMv ki off t v → K v → ld ki g2 ((xa.add (k * 5)).add off) K := fun hp hK => (lrow.le lg2).ldPart rfl hkX hp rfl hK
    have rdE : ∀ {off : Nat} {v : Int} {K : Int → Prop}, PartAt KEf ki off ff v → K v → ld ki g2 ((fa.add (k * 3)).add off) K := fun hp hK => (erow.arr.le lg2).ldPart rfl hkE' hp rfl hK
    obtain ⟨t1, t2, t3, t4, t5, tu⟩ := t
    obtain ⟨f1, f2, f3, fu⟩ := ff
    refine ⟨⟨by omega, by dsimp only; omega⟩, (l1.le lg2).atA (i := (w : Int)) (by omega) (by omega) rfl fun a ha => ?_⟩
    rw [Int.toNat_natCast, hli] at ha
    cases ha
    refine ⟨⟨by dsimp only; omega, by dsimp only; omega⟩, rdX (off := 1) (v := t2) ⟨[_], _, rfl, rfl⟩ ⟨fun z => ?_, fun z => ?_⟩⟩
    · have z : t2 = 1 := of_decide_eq_true z
      refine ⟨⟨by omega, by dsimp only; omega⟩, (Re.out.arr.le lg2).atA (i := (w : Int)) (by omega) (by omega) rfl fun a ha => ?_⟩
      rw [Int.toNat_natCast, hei] at ha
      cases ha
      refine ⟨⟨by dsimp only; omega, by dsimp only; omega⟩, rdE (off := 2) (v := f3) ⟨[_, _], _, rfl, rfl⟩ ⟨fun y => ?_, fun y => ?_⟩⟩
      · have y : f3 = 0 := of_decide_eq_true y
        refine ⟨⟨by omega, by dsimp only; omega⟩, ⟨by omega, by dsimp only; omega⟩, (l1.le lg2).atA (i := (w : Int)) (by omega) (by omega) rfl fun a ha => ?_⟩
        rw [Int.toNat_natCast, hli] at ha
        cases ha
        refine ⟨⟨by dsimp only; omega, by dsimp only; omega⟩, rdX (off := 2) (v := t3) ⟨[_, _], _, rfl, rfl⟩ ((l1.le lg2).atA (i := (w : Int)) (by omega) (by omega) rfl fun a ha => ?_)⟩
        rw [Int.toNat_natCast, hli] at ha
        cases ha
        refine ⟨⟨by dsimp only; omega, by dsimp only; omega⟩, rdX (off := 3) (v := t4) ⟨[_, _, _], _, rfl, rfl⟩ ?_⟩
        refine n2.app3 (x := ((t3, (t4, ())) : Wait)) rfl rfl (by omega) fun tt h3 n3 x3 b3 => hgo2 hkE _ _ next ?_
        rw [snoc, if_pos (by simp [isMade, z, y])]
        exact n3
      · have y : ¬ f3 = 0 := of_decide_eq_false y
        refine hgo2 hkE _ _ next ?_
        exact idle (by simp [isMade, y])
    · have z : ¬ t2 = 1 := of_decide_eq_false z
      refine ⟨fun e => (by cases e), fun _ => hgo2 hkE _ _ next ?_⟩
      exact idle (by simp [isMade, z])
  · have f : ¬ (k : Int) < (esl.len : Int) := of_decide_eq_false f
    obtain rfl : k = E.length := by omega
    rw [List.take_of_length_le (Nat.le_refl _), ← sto] at n2
    rw [List.take_of_length_le (Nat.le_refl _), ← sto] at n2l mle
    clear hgo2
    have splitL : ∀ i, stL w st.m.lg = stL w (st.m.lg.take i) ++ stL w (st.m.lg.drop i) := fun i => by
      unfold stL
      rw [← List.map_append, ← List.filter_append, List.take_append_drop]
    have hsto : st.m.sto w = stL w st.m.lg ++ st.m.q w := rfl
    rw [hsto] at n2 n2l mle
    refine Loop.up st.m.lg.length (fun s => s.2.1) (fun i s g => g = g2 ∧ s.1 = ((stL w (st.m.lg.take i)).length : Int)) rfl ⟨rfl, rfl⟩ ?_
    rintro i ⟨n, i', u3⟩ g3 go3 hi hc ⟨rfl, hn⟩ hgo3
    dsimp only at hc hn; subst hc; subst hn
    refine ⟨fun z => ?_, fun z => ?_⟩
    · have z : (i : Int) < (rl.len : Int) := of_decide_eq_true z
      have hil : i < st.m.lg.length := by omega
      have hbi : 0 ≤ (i : Int) ∧ (i : Int) < (rl.len : Int) := ⟨by omega, z⟩
      refine ⟨hbi, (Rl.arr.le lg2).at (i := (i : Int)) (by omega) z rfl fun a ha => ?_⟩
      rw [Int.toNat_natCast] at ha
      have ha' : st.m.lg[i] = a := (List.getElem?_eq_some_iff.1 ha).2
      have s1 := stL_snoc w (st.m.lg.take i) a
      rw [← ha', ← take_succ' st.m.lg hil, ha'] at s1
      have next : w64 ((i : Int) + 1) = ((i + 1 : Nat) : Int) := by rw [w64_of] <;> omega
      have lel : (stL w (st.m.lg.take i)).length ≤ 4096 := by
        have := splitL i
        rw [this, List.length_append, List.length_append] at mle
        omega
      have no : isSt w a ≠ true → law21_BuffersOrder.j7 Q (mm, ((E.length : Int), u2)) go3 (((stL w (st.m.lg.take i)).length : Int), ((i : Int), u3)) a (false, ()) g3 := fun y =>
        ⟨fun e => (by cases e), fun _ => hgo3 hil _ _ next ⟨rfl, by rw [s1, if_neg y, List.append_nil]⟩⟩
      refine ⟨fun y => ?_, fun y => no ?_⟩
      · have y : a.1 = (w : Int) := of_decide_eq_true y
        by_cases x : a.2.1 = 1
        · show law21_BuffersOrder.j7 Q _ go3 _ a (decide (a.2.1 = 1), ()) g3
          rw [decide_eq_true x]
          have hst : isSt w a = true := by simp [isSt, x, y]
          rw [hst, if_pos rfl] at s1
          have hcut : stL w st.m.lg = stL w (st.m.lg.take i) ++ (stW a :: stL w (st.m.lg.drop (i + 1))) := by
            rw [splitL (i + 1), s1, List.append_assoc]; rfl
          have hget : (stL w st.m.lg ++ st.m.q w)[(stL w (st.m.lg.take i)).length]? = some (stW a) := by
            rw [hcut, List.append_assoc, List.getElem?_append_right (Nat.le_refl _), Nat.sub_self]; rfl
          have hlt := (List.getElem?_eq_some_iff.1 hget).1
          have hbd : 0 ≤ ((stL w (st.m.lg.take i)).length : Int) ∧ ((stL w (st.m.lg.take i)).length : Int) < (mm.len : Int) := ⟨by omega, by omega⟩
          refine ⟨fun _ => ⟨fun d => absurd (of_decide_eq_true d) (by dsimp only; omega), fun _ => ⟨hbd, n2.arr.at (i := ((stL w (st.m.lg.take i)).length : Int)) (by omega) (by omega) rfl fun b hb => ?_⟩⟩, fun e => (by cases e)⟩
          rw [Int.toNat_natCast, hget] at hb
          cases hb
          refine ⟨fun d => ?_, fun _ => hgo3 hil _ _ next ⟨rfl, ?_⟩⟩
          · dsimp only at d
            have : eqK kapiWait (stW a) (a.2.2.1, (a.2.2.2.1, ())) = true := eqK_refl KWt (stW a) rfl
            rw [this] at d
            cases d
          · show w64 (((stL w (st.m.lg.take i)).length : Int) + 1) = _
            rw [s1, List.length_append, w64_of (by omega) (by omega)]; rfl
        · show law21_BuffersOrder.j7 Q _ go3 _ a (decide (a.2.1 = 1), ()) g3
          rw [decide_eq_false x]
          exact no (by simp [isSt, x])
      · have y : ¬ a.1 = (w : Int) := of_decide_eq_false y
        simp [isSt, y]
    · have z : ¬ (i : Int) < (rl.len : Int) := of_decide_eq_false z
      obtain rfl : i = st.m.lg.length := by omega
      rw [List.take_of_length_le (Nat.le_refl _)]
      rw [List.length_append] at n2l
      have hbd : 0 ≤ ((stL w st.m.lg).length : Int) ∧ ((stL w st.m.lg).length : Int) ≤ (mm.len : Int) := ⟨by omega, by omega⟩
      refine ⟨hbd, ⟨by omega, by dsimp only; omega⟩, (Rw.out.arr.le lg2).atA (i := (w : Int)) (by omega) (by omega) rfl fun a ha => ?_⟩
      rw [Int.toNat_natCast, hwi] at ha
      cases ha
      have hs := n2.arr.suf (n := (stL w st.m.lg).length) (by omega) (sz := 2) rfl
      rw [List.drop_left] at hs
      refine iW (xs := st.m.q w) hs (wrow.arr.le lg2) (by have := ok.m.r64; omega) ⟨fun d => (by cases d), fun _ => ⟨⟨by omega, by dsimp only; omega⟩, (Rw.out.arr.le lg2).atA (i := (w : Int)) (by omega) (by omega) rfl fun a ha => ?_⟩⟩
      rw [Int.toNat_natCast, hwi] at ha
      cases ha
      show law21_BuffersOrder.j8 Q go ((w : Int), u') (decide (room < (wsl.len : Int)), ()) g3
      rw [decide_eq_false (by omega)]
      exact ⟨fun e => (by cases e), fun _ => hgo hwl _ _ (by show w64 ((w : Int) + 1) = _; rw [w64_of] <;> omega) lg2⟩
end

theorem order_spec {cb cf cp cg cw} (iB : BoundC cb) (iF : FewC false id cf) (iP : PlayC cp) (iG : ProgC cg) (iW : SameWC cw) {size used room : Int} {lists picks : Sl} {h : Heap} {ls : List (List AMv)} {ps : List Int} (hl : Arr2 h KMv lists ls) (hp : Arr h ki picks ps) {Q : Bool → Heap → Prop} (hQ : ∀ h', Go.Mx.le h h' → Q true h') :
    law21_BuffersOrder.M cb cf cp cg cw size used room lists picks h Q := by
  refine iB (iF hl fun t h1 ht l1 => ?_)
  have fl := fewP_len (f := id) (ls := ls)
  have f4 : ∀ x ∈ fewP id ls, x.length ≤ 4096 := fewP_le fun l q => Nat.le_trans q (by decide)
  have main : ∀ pk qs, Arr h1 ki pk qs → qs.length ≤ 2000 → law21_BuffersOrder.j14 cp cg cw Q (used % 17 + size % 9, (used % 17, (1 + room % 64, ()))) t (pk, ()) h1 := by
    intro pk qs ha hq
    have hj := judgedB (f := id) (fun l q => Nat.le_trans q (by decide)) (size := size) (used := used) (room := room) (ls := ls) (np := qs.length) (by omega)
    refine iP ht ha (fun q => absurd hj q) fun _ r h2 els wls R => ?_
    have R : RunR h1 h2 r (fewP id ls).length (PB.run (fewP id ls) (PB.start (fewP id ls).length (1 + room % 64).toNat (used % 17 + size % 9) (used % 17).toNat) qs) els wls _ := R
    have tl := ht.len
    have l2 := R.e.le
    have e1 := R.e.out.len
    have e2 := R.e.len
    have w1 := R.w.out.len
    have w2 := R.w.len
    rw [List.length_map, List.length_range] at w2
    have ok0 := PB.start_ok (ls := fewP id ls) (n := (fewP id ls).length) (rm := (1 + room % 64).toNat) (u := (used % 17).toNat) (sz := used % 17 + size % 9) rfl fl.2 (by omega) (by omega) (by omega) (by omega)
    have ok : (PB.run (fewP id ls) (PB.start (fewP id ls).length (1 + room % 64).toNat (used % 17 + size % 9) (used % 17).toNat) qs).Ok (fewP id ls) 80000000 := (ok0.run qs).mono (by omega)
    have hel := ok.el
    refine ⟨fun q => (by cases q), fun _ => ⟨fun q => absurd (of_decide_eq_true q) ?_, fun _ => ⟨fun q => absurd (of_decide_eq_true q) ?_, fun _ => ?_⟩⟩⟩
    · dsimp only; omega
    · dsimp only; omega
    refine iG (ht.le l2) (ha.le l2) R.e.out.arr fl.1 fl.2 (by omega) f4 ok0 rfl (by omega) (fun i sl hs => ?_) fun h3 l3 => ⟨fun e => (by cases e), fun _ => ?_⟩
    · have hi := (List.getElem?_eq_some_iff.1 hs).1
      have hsi : (PB.run (fewP id ls) (PB.start (fewP id ls).length (1 + room % 64).toNat (used % 17 + size % 9) (used % 17).toNat) qs).e[i]? = some ((PB.run (fewP id ls) (PB.start (fewP id ls).length (1 + room % 64).toNat (used % 17 + size % 9) (used % 17).toNat) qs).e[i]'(by omega)) := by simp
      rw [List.getD_eq_getElem?_getD, hsi]
      exact (R.e.row i sl _ hs hsi).len.symm
    · refine order_loop iW R (ht.le l2) ok (OrdI.run qs ok0 (OrdI.start _ _ _ _ _)) fl.2 f4 ?_ l3 (fun h' l' => hQ h' (l1.trans (l2.trans l'))) (size := used % 17 + size % 9) (used := used % 17) (room := 1 + room % 64)
      rw [PB.run_room]
      show (((1 + room % 64).toNat : Nat) : Int) = _
      omega
  have hpl := hp.1
  have hpc := hp.2.1
  refine ⟨fun e => ?_, fun e => ?_⟩
  · have e : (2000 : Int) < (picks.len : Int) := of_decide_eq_true e
    exact ⟨⟨by omega, by omega⟩, main _ _ ((hp.le l1).pre (by show 2000 ≤ picks.len; omega)) (List.length_take_le ..)⟩
  · have e : ¬ (2000 : Int) < (picks.len : Int) := of_decide_eq_false e
    exact main _ _ (hp.le l1) (by omega)

end Go.Mx
