/-
  Shelves that stand; what a memory that is none answers.
-/
import Derived.Test.YtppehoailhjdfabMxVk
import Derived.Test.YtppehoailhjdfabMxVd
set_option linter.unusedVariables false
set_option linter.unusedSimpArgs false
set_option linter.unusedSectionVars false
namespace Go.Mx

theorem chkS {h : Heap} {k : Kd} {sz : Nat} (hsz : sz = k.size) {b off : Nat} {X : Den KCr} {o : Sl} {es : List Sl} {ns : List Nat} {m : Nat → Den k} (ob : Obj h b KCr X) (hp : PartAt KCr .sl off X o) (out : Arr h .sl o es) (r : RowsM h k es ns m) (hb : ∀ x ∈ ns, x ≤ 1000000000) {i : Nat} (hi : i < ns.length) {tst : Den k → Bool} (ht : tst (m i) = false) {Q : Bool → Heap → Prop} {cont : Heap → Prop} (hQ : cont h)
    {body : ((Int × Unit) → Heap → Prop) → (Int × Unit) → Heap → Prop}
    (hbody : ∀ go s34 h35, body go s34 h35 = (deref (some (ptr b)) fun a37 => ld (.sl : Kd) h35 (a37.add off) fun t38 => (0 ≤ ((i : Nat) : Int) ∧ ((i : Nat) : Int) < (t38.len : Int)) ∧ deref t38.a fun a39 => ld (.sl : Kd) h35 (a39.add ((((i : Nat) : Int)).toNat * 1)) fun t40 =>
      (((decide (s34.1 < (t40.len : Int))) = true → deref (some (ptr b)) fun a41 => ld (.sl : Kd) h35 (a41.add off) fun t42 => (0 ≤ ((i : Nat) : Int) ∧ ((i : Nat) : Int) < (t42.len : Int)) ∧ deref t42.a fun a43 => ld (.sl : Kd) h35 (a43.add ((((i : Nat) : Int)).toNat * 1)) fun t44 => (0 ≤ s34.1 ∧ s34.1 < (t44.len : Int)) ∧ deref t44.a fun a45 => ld k h35 (a45.add ((s34.1 : Int).toNat * sz)) fun t46 =>
        ((tst t46 = true → Q false h35) ∧ (tst t46 = false → go ((w64 (s34.1 + 1)), ()) h35))) ∧ ((decide (s34.1 < (t40.len : Int))) = false → cont h35)))) : Loop body (0, ()) h := by
  have ol := out.1
  have rl := r.len
  obtain ⟨sl, hsl⟩ : ∃ sl, es[i]? = some sl := ⟨es[i]'(by omega), by simp⟩
  obtain ⟨n, hn⟩ : ∃ n, ns[i]? = some n := ⟨ns[i], by simp⟩
  have row := r.row i sl n hsl hn
  have nb := hb n (List.mem_of_getElem? hn)
  have rwl := row.1
  rw [List.length_replicate] at rwl
  have hbi : 0 ≤ ((i : Nat) : Int) ∧ ((i : Nat) : Int) < (o.len : Int) := ⟨by omega, by omega⟩
  have rE : ∀ {K : Sl → Prop}, K sl → deref o.a fun a => ld .sl h (a.add ((((i : Nat) : Int)).toNat * 1)) K := fun hK => out.at (i := ((i : Nat) : Int)) hbi.1 hbi.2 rfl fun y hy => by
    rw [Int.toNat_natCast, hsl] at hy
    cases hy; exact hK
  refine Loop.up n (fun s => s.1) (fun j _ g => g = h) rfl rfl ?_
  rintro j ⟨j', u⟩ g go hj hc ⟨⟩ hgo
  dsimp only at hc; subst hc
  rw [hbody]
  refine deref_someV (ob.ld hp ⟨hbi, rE ⟨fun d => ?_, fun _ => hQ⟩⟩)
  have d : (j : Int) < (sl.len : Int) := of_decide_eq_true d
  have hbj : 0 ≤ (j : Int) ∧ (j : Int) < (sl.len : Int) := ⟨by omega, d⟩
  refine deref_someV (ob.ld hp ⟨hbi, rE ⟨hbj, row.at (i := (j : Int)) hbj.1 hbj.2 hsz fun y hy => ?_⟩⟩)
  rw [Int.toNat_natCast, List.getElem?_replicate, if_pos (by omega)] at hy
  cases hy
  exact ⟨fun e => (by rw [ht] at e; cases e), fun _ => hgo (by omega) _ _ (by show w64 ((j : Int) + 1) = _; rw [w64_of] <;> omega) rfl⟩
def StandC (q : Option Addr → Heap → (Bool → Heap → Prop) → Prop) : Prop := ∀ {h0 h : Heap} {b N : Nat} {F : Nat → Prop} {Q : Bool → Heap → Prop}, ShR h0 b N F h → N ≤ 1000000000 → Q true h → q (some (ptr b)) h Q
theorem stands_spec : StandC law21_shelf_stands.M := by
  intro h0 h b N F Q R hN hQ
  obtain ⟨wo, no, lo, we, ne, le, ws, ns, ls, s, hK, -⟩ := R
  have p0 : PartAt KCr .sl 0 (wo, (no, (lo, ()))) wo := ⟨[], _, rfl, rfl⟩
  have p1 : PartAt KCr .sl 1 (wo, (no, (lo, ()))) no := ⟨[_], _, rfl, rfl⟩
  have p2 : PartAt KCr .sl 2 (wo, (no, (lo, ()))) lo := ⟨[_, _], _, rfl, rfl⟩
  have hwl := s.w.len
  have hwr := s.wr.len
  have e1 := s.e1
  have e2 := s.e2
  have bd : ∀ {l : List Nat}, (∀ x ∈ l, x ∈ ws ++ (ns ++ ls)) → ∀ x ∈ l, x ≤ 1000000000 := fun hs x hx => s.bd x (hs x hx)
  refine Loop.up ws.length (fun s => s.1) (fun i _ g => g = h) rfl rfl ?_
  rintro i ⟨i', u⟩ g go hi hc ⟨⟩ hgo
  dsimp only at hc; subst hc
  refine deref_someV (s.obj.ld p0 ⟨fun d => ?_, fun _ => hQ⟩)
  have d : (i : Int) < (wo.len : Int) := of_decide_eq_true d
  have hil : i < ws.length := by omega
  have next : w64 ((i : Int) + 1) = ((i + 1 : Nat) : Int) := by rw [w64_of] <;> omega
  refine chkS (k := KWt) (sz := 2) rfl s.obj p0 s.w.arr s.wr (bd fun x hx => by simp [hx]) hil (tst := fun t => !(eqK KWt t (mkW i))) (by show (!(eqK KWt (mkW i) (mkW i))) = false; rw [eqK_refl KWt _ rfl]; rfl) (Q := Q) (cont := fun h => Loop (law21_shelf_stands.l2 (some (ptr b)) Q go ((i : Int), u)) (0, ()) h) ?_ (fun go' s34 h35 => rfl)
  refine chkS (k := ki) (sz := 1) rfl s.obj p1 s.n.arr s.nr (bd fun x hx => by simp [hx]) (by omega) (tst := fun t => decide (t ≠ (mkN i : Den ki))) (decide_eq_false (fun q => q rfl)) (Q := Q) (cont := fun h => Loop (law21_shelf_stands.l1 (some (ptr b)) Q go ((i : Int), u)) (0, ()) h) ?_ (fun go' s34 h35 => rfl)
  refine chkS (k := KAcc) (sz := 6) rfl s.obj p2 s.l.arr s.lr (bd fun x hx => by simp [hx]) (by omega) (tst := fun t => !(eqK KAcc t (mkL i))) (by show (!(eqK KAcc (mkL i) (mkL i))) = false; rw [eqK_refl KAcc _ rfl]; rfl) (Q := Q) (cont := fun h => go ((w64 ((i : Int) + 1)), ()) h) ?_ (fun go' s34 h35 => rfl)
  exact hgo hil _ _ next rfl

/-! ### the program's memory and the document's -/
inductive PairR (h0 : Heap) (mo ro : Option Addr) (L : Nat) : (Nat → Prop) → Heap → Prop
  | ok {bm br : Nat} {M : BM} {S1 S2 : Nat → Prop} {h : Heap} (e1 : mo = some (ptr bm)) (e2 : ro = some (ptr br)) (R1 : BmR h0 bm M S1 h) (R2 : RmR h0 br M S2 h) (d : ∀ x, S1 x → ¬ S2 x) (k : M.Ok L) : PairR h0 mo ro L (fun x => S1 x ∨ S2 x) h
  | bad {br ba : Nat} {h : Heap} (e1 : mo = none) (e2 : ro = some (ptr br)) (o1 : Obj h br KRM (some (ptr ba), (0, (Sl.none, ())))) (o2 : Obj h ba KRA (0, (Sl.none, (false, (0, (Sl.none, ())))))) (n1 : h0 br = none) (n2 : h0 ba = none) (l : Go.Mx.le h0 h) : PairR h0 mo ro L (fun x => x = br ∨ x = ba) h
theorem PairR.le {h0 mo ro L S h} (R : PairR h0 mo ro L S h) : Go.Mx.le h0 h := by
  cases R with
  | ok e1 e2 R1 R2 d k => exact R1.le
  | bad e1 e2 o1 o2 n1 n2 l => exact l
theorem PairR.live {h0 mo ro L S h} (R : PairR h0 mo ro L S h) {x : Nat} (hx : S x) : h x ≠ none := by
  cases R with
  | ok e1 e2 R1 R2 d k => exact hx.elim R1.live R2.live
  | bad e1 e2 o1 o2 n1 n2 l => exact hx.elim (fun e => by subst e; exact o1.live) (fun e => by subst e; exact o2.live)
theorem PairR.fresh {h0 mo ro L S h} (R : PairR h0 mo ro L S h) {x : Nat} (hx : S x) : h0 x = none := by
  cases R with
  | ok e1 e2 R1 R2 d k => exact hx.elim R1.fresh R2.fresh
  | bad e1 e2 o1 o2 n1 n2 l => exact hx.elim (fun e => by subst e; exact n1) (fun e => by subst e; exact n2)
theorem PairR.ext {h0 mo ro L S h h'} (R : PairR h0 mo ro L S h) {T : Nat → Prop} (e : Ext T h h') (n : ∀ x, S x → ¬ T x) (f : ∀ x, T x → h0 x = none) : PairR h0 mo ro L S h' := by
  cases R with
  | ok e1 e2 R1 R2 d k => exact .ok e1 e2 (R1.ext e (fun x q => n x (.inl q)) f) (R2.ext e (fun x q => n x (.inr q)) f) d k
  | bad e1 e2 o1 o2 n1 n2 l => exact .bad e1 e2 (o1.ext e (n _ (.inl rfl))) (o2.ext e (n _ (.inr rfl))) n1 n2 (le_ext l e f)
theorem PairR.mono {h0 mo ro L L' S h} (R : PairR h0 mo ro L S h) (hL : L ≤ L') : PairR h0 mo ro L' S h := by
  cases R with
  | ok e1 e2 R1 R2 d k => exact .ok e1 e2 R1 R2 d (k.mono hL)
  | bad e1 e2 o1 o2 n1 n2 l => exact .bad e1 e2 o1 o2 n1 n2 l
def Bad (h : Heap) (br : Nat) : Prop := ∃ ba, Obj h br KRM (some (ptr ba), (0, (Sl.none, ()))) ∧ Obj h ba KRA (0, (Sl.none, (false, (0, (Sl.none, ())))))
section
variable {h : Heap} {br : Nat} (B : Bad h br)
include B
theorem Bad.ld2 {K : Sl → Prop} (hK : K Sl.none) : ld .sl h ((ptr br).add 2) K := by
  obtain ⟨ba, o1, o2⟩ := B
  exact o1.ld (kf := .sl) (y := Sl.none) ⟨[_, _], _, rfl, rfl⟩ hK
theorem Bad.ldA {K : Option Addr → Prop} (hK : ∀ ba, Obj h ba KRA (0, (Sl.none, (false, (0, (Sl.none, ()))))) → K (some (ptr ba))) : ld .ptr h ((ptr br).add 0) K := by
  obtain ⟨ba, o1, o2⟩ := B
  exact o1.ld (kf := .ptr) (y := some (ptr ba)) ⟨[], _, rfl, rfl⟩ (hK ba o2)
end
theorem badA0 {h : Heap} {ba : Nat} (o : Obj h ba KRA (0, (Sl.none, (false, (0, (Sl.none, ())))))) {K : Int → Prop} (hK : K 0) : ld ki h ((ptr ba).add 0) K := o.ld (kf := ki) (y := (0 : Int)) ⟨[], _, rfl, rfl⟩ hK
theorem badA1 {h : Heap} {ba : Nat} (o : Obj h ba KRA (0, (Sl.none, (false, (0, (Sl.none, ())))))) {K : Sl → Prop} (hK : K Sl.none) : ld .sl h ((ptr ba).add 1) K := o.ld (kf := .sl) (y := Sl.none) ⟨[_], _, rfl, rfl⟩ hK
theorem badA4 {h : Heap} {ba : Nat} (o : Obj h ba KRA (0, (Sl.none, (false, (0, (Sl.none, ())))))) {K : Sl → Prop} (hK : K Sl.none) : ld .sl h ((ptr ba).add 4) K := o.ld (kf := .sl) (y := Sl.none) ⟨[_, _, _, _], _, rfl, rfl⟩ hK
def badE (t : AMv) : Int := if t.2.1 = 4 then (if t.2.2.2.1 < 1 then 21 else 22) else 20
def BadInC (c : Option Addr → Int → Heap → (Bool → Heap → Prop) → Prop) : Prop := ∀ {h : Heap} {br : Nat} {a : Int} {Q : Bool → Heap → Prop}, Bad h br → Q false h → c (some (ptr br)) a h Q
def BadRefC (c : Option Addr → AMv → Heap → (Int → Heap → Prop) → Prop) : Prop := ∀ {h : Heap} {br : Nat} {t : AMv} {Q : Int → Heap → Prop}, Bad h br → Q (badE t) h → c (some (ptr br)) t h Q
def BadDoC (c : Option Addr → Int → AMv → Heap → (Eff → Heap → Prop) → Prop) : Prop := ∀ {h : Heap} {br : Nat} {k : Int} {t : AMv} {Q : Eff → Heap → Prop}, Bad h br → 0 ≤ (t.2.1 : Int) ∧ (t.2.1 : Int) ≤ 4 → Q (0, (false, (badE t, ()))) h → c (some (ptr br)) k t h Q
def BadDrC (c : Option Addr → Int → Heap → (Unit → Heap → Prop) → Prop) : Prop := ∀ {h : Heap} {br : Nat} {k : Int} {Q : Unit → Heap → Prop}, Bad h br → Q () h → c (some (ptr br)) k h Q
def BadFlC (c : Option Addr → Int → Heap → (Bool → Heap → Prop) → Prop) : Prop := ∀ {h : Heap} {br : Nat} {k : Int} {Q : Bool → Heap → Prop}, Bad h br → Q false h → c (some (ptr br)) k h Q
theorem badIn_spec : BadInC ref21_Memory_inUse.M := by
  intro h br a Q B hQ
  refine ⟨fun e => ?_, fun e => hQ⟩
  have e : (0 : Int) ≤ a := of_decide_eq_true e
  refine B.ldA fun ba o => badA1 o ?_
  show Q (decide (a < ((0 : Nat) : Int))) h
  rw [decide_eq_false (show ¬ a < ((0 : Nat) : Int) by omega)]; exact hQ
theorem badRef_spec {ci} (iI : BadInC ci) : BadRefC (ref21_Memory_refused.M ci) := by
  intro h br t Q B hQ
  obtain ⟨t0, t1, t2, t3, t4, tu⟩ := t
  change Int at t1 t2 t3
  unfold badE at hQ
  dsimp only at hQ
  refine ⟨fun e => ?_, fun e => ?_⟩
  · have e : t1 = 4 := of_decide_eq_true e
    rw [if_pos e] at hQ
    refine ⟨fun f => ?_, fun f => ?_⟩
    · rw [if_pos (of_decide_eq_true f)] at hQ; exact hQ
    have f : ¬ t3 < 1 := of_decide_eq_false f
    rw [if_neg f] at hQ
    refine B.ldA fun ba o => badA0 o (B.ldA fun ba2 o2 => badA1 o2 ?_)
    show ((decide (w64 ((0 : Int) - ((Sl.none.len : Nat) : Int)) < t3) = true → _) ∧ (decide (w64 ((0 : Int) - ((Sl.none.len : Nat) : Int)) < t3) = false → _))
    have hw : w64 ((0 : Int) - ((Sl.none.len : Nat) : Int)) = 0 := by decide
    rw [hw]
    exact ⟨fun _ => hQ, fun d => absurd (show (0 : Int) < t3 by omega) (of_decide_eq_false d)⟩
  · rw [if_neg (of_decide_eq_false e)] at hQ
    exact iI B ⟨fun _ => hQ, fun e => (by cases e)⟩
theorem badDo_spec {cd cr cf ca} (iR : BadRefC cr) : BadDoC (ref21_Memory_Do.M cd cr cf ca) := by
  intro h br k t Q B ht hQ
  obtain ⟨t0, t1, t2, t3, t4, tu⟩ := t
  change Int at t1 t2 t3
  have ht : 0 ≤ t1 ∧ t1 ≤ 4 := ht
  have main : ref21_Memory_Do.j5 cd cr cf ca (some (ptr br)) k (t0, (t1, (t2, (t3, (t4, tu))))) Q (false, ()) h := by
    refine ⟨fun e => (by cases e), fun _ => ⟨fun e => absurd (show t1 = 5 from of_decide_eq_true e) (by omega), fun _ => iR B ⟨fun _ => hQ, fun e => ?_⟩⟩⟩
    have e : ¬ (badE (t0, (t1, (t2, (t3, (t4, tu))))) ≠ 0) := of_decide_eq_false e
    exfalso
    apply e
    unfold badE
    dsimp only
    split
    · split <;> decide
    · decide
  refine ⟨fun e => absurd (show t1 < 0 from of_decide_eq_true e) (by omega), fun e => ?_⟩
  show ref21_Memory_Do.j5 cd cr cf ca _ _ _ Q (decide ((5 : Int) < t1), ()) h
  rw [decide_eq_false (by omega)]
  exact main
theorem badDr_spec {cf} : BadDrC (ref21_Memory_Drain.M cf) := by
  intro h br k Q B hQ
  refine ⟨fun _ g => g = h, fun _ _ => 0, rfl, ?_⟩
  rintro u g rfl
  show ref21_Memory_Drain.l3 cf (some (ptr br)) k Q _ u g
  have no : ∀ go, ref21_Memory_Drain.j2 cf (some (ptr br)) k Q go (false, ()) g := fun go => ⟨fun e => (by cases e), fun _ => hQ⟩
  refine ⟨fun e => B.ld2 ⟨fun f => ?_, fun _ => no _⟩, fun _ => no _⟩
  have e : (0 : Int) ≤ k := of_decide_eq_true e
  have f : k < ((Sl.none.len : Nat) : Int) := of_decide_eq_true f
  have f : k < ((0 : Nat) : Int) := f
  omega
theorem badFl_spec {cd} : BadFlC (ref21_Memory_Flush.M cd) := by
  intro h br k Q B hQ
  have no : ref21_Memory_Flush.j3 cd (some (ptr br)) k Q (true, ()) h := ⟨fun _ => hQ, fun e => (by cases e)⟩
  refine ⟨fun _ => no, fun e => B.ld2 ⟨fun _ => no, fun f => ?_⟩⟩
  have e : ¬ k < 0 := of_decide_eq_false e
  have f : ¬ ((Sl.none.len : Nat) : Int) ≤ k := of_decide_eq_false f
  have f : ¬ ((0 : Nat) : Int) ≤ k := f
  omega
/-- The program's calls of a memory that is none. -/
structure NilM (cV : Option Addr → Int → Heap → (Option Addr → Heap → Prop) → Prop) (cF : Option Addr → Int → Heap → (Bool → Heap → Prop) → Prop) (cW : Option Addr → Int → Heap → (Sl → Heap → Prop) → Prop) (cC cL : Option Addr → Heap → (Sl → Heap → Prop) → Prop) : Prop where
  v : ∀ {h : Heap} {k : Int} {Q : Option Addr → Heap → Prop}, Q none h → cV none k h Q
  f : ∀ {h : Heap} {k : Int} {Q : Bool → Heap → Prop}, Q false h → cF none k h Q
  w : ∀ {h : Heap} {k : Int} {Q : Sl → Heap → Prop}, Q ⟨none, 0, 0⟩ h → cW none k h Q
  c : ∀ {h : Heap} {Q : Sl → Heap → Prop}, Q ⟨none, 0, 0⟩ h → cC none h Q
  l : ∀ {h : Heap} {Q : Sl → Heap → Prop}, Q ⟨none, 0, 0⟩ h → cL none h Q
structure NilV (c0 : Option Addr → Int → Heap → (Den K2 → Heap → Prop) → Prop) (c1 : Option Addr → Int → Int → Heap → (Int → Heap → Prop) → Prop) (c2 : Option Addr → Int → Int → Int → Heap → ((Bool × (Int × Unit)) → Heap → Prop) → Prop) (c3 : Option Addr → Int → Int → Heap → (Den K2 → Heap → Prop) → Prop) (c4 : Option Addr → Int → Heap → (Den K2 → Heap → Prop) → Prop) : Prop where
  ld : ∀ {h : Heap} {a : Int} {Q : Den K2 → Heap → Prop}, Q (0, (20, ())) h → c0 none a h Q
  st : ∀ {h : Heap} {a v : Int} {Q : Int → Heap → Prop}, Q 20 h → c1 none a v h Q
  cas : ∀ {h : Heap} {a x y : Int} {Q : (Bool × (Int × Unit)) → Heap → Prop}, Q (false, (20, ())) h → c2 none a x y h Q
  add : ∀ {h : Heap} {a v : Int} {Q : Den K2 → Heap → Prop}, Q (0, (20, ())) h → c3 none a v h Q
  res : ∀ {h : Heap} {n : Int} {Q : Den K2 → Heap → Prop}, Q (0, ((if n < 1 then 21 else 22), ())) h → c4 none n h Q
def ByC (c : Option Addr → AMv → Heap → (Eff → Heap → Prop) → Prop) : Prop := (∀ {h : Heap} {t : AMv} {Q : Eff → Heap → Prop}, 0 ≤ (t.2.1 : Int) ∧ (t.2.1 : Int) ≤ 4 → Q (0, (false, (badE t, ()))) h → c none t h Q) ∧
  (∀ {h0 h : Heap} {bm : Nat} {M : BM} {S : Nat → Prop} {L k : Nat} {t : AMv} {Q : Eff → Heap → Prop}, BmR h0 bm M S h → M.Ok L → L ≤ 900000000 → k < M.n → 0 ≤ (t.2.1 : Int) ∧ (t.2.1 : Int) ≤ 4 → (∀ S' h', BmR h0 bm (M.act k t).1 S' h' → Step S S' h h' → Q (M.act k t).2 h') → c (some (vptr bm k)) t h Q)
theorem by_spec {c0 c1 c2 c3 c4} (N : NilV c0 c1 c2 c3 c4) (i0 : VLoadC c0) (i1 : VStoreC c1) (i2 : VCasC c2) (i3 : VAddC c3) (i4 : VResC c4) : ByC (law21_by.M c0 c1 c2 c3 c4) := by
  constructor
  · intro h t Q ht hQ
    obtain ⟨t0, t1, t2, t3, t4, tu⟩ := t
    change Int at t1 t2 t3
    have ht : 0 ≤ t1 ∧ t1 ≤ 4 := ht
    unfold badE at hQ
    dsimp only at hQ
    refine ⟨fun e => N.ld ?_, fun e0 => ⟨fun e => N.st ?_, fun e1 => ⟨fun e => N.cas ?_, fun e2 => ⟨fun e => N.add ?_, fun e3 => N.res ?_⟩⟩⟩⟩
    · have e : t1 = 0 := of_decide_eq_true e
      rw [if_neg (show ¬ t1 = 4 by omega)] at hQ; exact hQ
    · have e : t1 = 1 := of_decide_eq_true e
      rw [if_neg (show ¬ t1 = 4 by omega)] at hQ; exact hQ
    · have e : t1 = 2 := of_decide_eq_true e
      rw [if_neg (show ¬ t1 = 4 by omega)] at hQ; exact hQ
    · have e : t1 = 3 := of_decide_eq_true e
      rw [if_neg (show ¬ t1 = 4 by omega)] at hQ; exact hQ
    · have e0 : ¬ t1 = 0 := of_decide_eq_false e0
      have e1 : ¬ t1 = 1 := of_decide_eq_false e1
      have e2 : ¬ t1 = 2 := of_decide_eq_false e2
      have e3 : ¬ t1 = 3 := of_decide_eq_false e3
      rw [if_pos (show t1 = 4 by omega)] at hQ
      show Q (0, (decide ((if t3 < 1 then (21 : Int) else 22) = 0), ((if t3 < 1 then 21 else 22), ()))) h
      rw [decide_eq_false (by split <;> decide)]; exact hQ
  · intro h0 h bm M S L k t Q R ok hL hk ht hQ
    obtain ⟨t0, t1, t2, t3, t4, tu⟩ := t
    change Int at t1 t2 t3 t4
    have ht : 0 ≤ t1 ∧ t1 ≤ 4 := ht
    unfold BM.act at hQ
    dsimp only at hQ
    refine ⟨fun e => ?_, fun e0 => ⟨fun e => ?_, fun e1 => ⟨fun e => ?_, fun e2 => ⟨fun e => ?_, fun e3 => ?_⟩⟩⟩⟩
    · have e : t1 = 0 := of_decide_eq_true e
      rw [if_pos e] at hQ
      exact i0 R ok hL hk hQ
    · have e : t1 = 1 := of_decide_eq_true e
      rw [if_neg (show ¬ t1 = 0 by omega), if_pos e] at hQ
      exact i1 R ok hL hk hQ
    · have e : t1 = 2 := of_decide_eq_true e
      rw [if_neg (show ¬ t1 = 0 by omega), if_neg (show ¬ t1 = 1 by omega), if_pos e] at hQ
      exact i2 R ok hL hk hQ
    · have e : t1 = 3 := of_decide_eq_true e
      rw [if_neg (show ¬ t1 = 0 by omega), if_neg (show ¬ t1 = 1 by omega), if_neg (show ¬ t1 = 2 by omega), if_pos e] at hQ
      exact i3 R ok hL hk hQ
    · have e0 : ¬ t1 = 0 := of_decide_eq_false e0
      have e1 : ¬ t1 = 1 := of_decide_eq_false e1
      have e2 : ¬ t1 = 2 := of_decide_eq_false e2
      have e3 : ¬ t1 = 3 := of_decide_eq_false e3
      rw [if_neg e0, if_neg e1, if_neg e2, if_neg e3, if_pos (show t1 = 4 by omega)] at hQ
      exact i4 R ok hL hk hQ

end Go.Mx
