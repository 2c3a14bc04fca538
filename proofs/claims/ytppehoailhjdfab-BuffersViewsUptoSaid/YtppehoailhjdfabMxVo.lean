/-
  Lists that are asked for and kept; whether they are alone.
-/
import Derived.Test.YtppehoailhjdfabMxVn
set_option linter.unusedVariables false
set_option linter.unusedSimpArgs false
set_option linter.unusedSectionVars false
namespace Go.Mx

theorem KpR.mono {h0 b c c' F h} (R : KpR h0 b c F h) (e : c ≤ c') : KpR h0 b c' F h := by
  obtain ⟨o, e', X, sum, s, B, q⟩ := R
  exact ⟨o, e', X, sum, s, ⟨B.w, B.n, B.l, B.bd, fun i hi => Nat.le_trans (B.c i hi) e⟩, q⟩
/-- The two memories with what they hold. -/
def Rd (h0 : Heap) (mo : Option Addr) (br n : Nat) (q : Nat → List Wait) (cs : List Int) (lg : List Acc) (L : Nat) (S : Nat → Prop) (h : Heap) : Prop :=
  (∃ bm M S1 S2, mo = some (ptr bm) ∧ BmR h0 bm M S1 h ∧ RmR h0 br M S2 h ∧ M.Ok L ∧ n = M.n ∧ q = M.q ∧ cs = M.cs ∧ lg = M.lg ∧ (∀ x, S1 x → ¬ S2 x) ∧ S = fun x => S1 x ∨ S2 x) ∨
  (∃ ba, mo = none ∧ Obj h br KRM (some (ptr ba), (0, (Sl.none, ()))) ∧ Obj h ba KRA (0, (Sl.none, (false, (0, (Sl.none, ()))))) ∧ n = 0 ∧ cs = [] ∧ lg = [] ∧ (h0 br = none ∧ h0 ba = none ∧ Go.Mx.le h0 h) ∧ S = fun x => x = br ∨ x = ba)
theorem Rd.ext {h0 mo br n q cs lg L S h h'} (R : Rd h0 mo br n q cs lg L S h) {T : Nat → Prop} (e : Ext T h h') (d : ∀ x, S x → ¬ T x) (f : ∀ x, T x → h0 x = none) : Rd h0 mo br n q cs lg L S h' := by
  rcases R with ⟨bm, M, S1, S2, e1, R1, R2, ok, e2, e3, e4, e5, dd, rfl⟩ | ⟨ba, e1, o1, o2, e2, e3, e4, nn, rfl⟩
  · exact .inl ⟨bm, M, S1, S2, e1, R1.ext e (fun x p => d x (.inl p)) f, R2.ext e (fun x p => d x (.inr p)) f, ok, e2, e3, e4, e5, dd, rfl⟩
  · exact .inr ⟨ba, e1, o1.ext e (d _ (.inl rfl)), o2.ext e (d _ (.inr rfl)), e2, e3, e4, ⟨nn.1, nn.2.1, le_ext nn.2.2 e f⟩, rfl⟩
theorem Rd.live {h0 mo br n q cs lg L S h} (R : Rd h0 mo br n q cs lg L S h) {x : Nat} (hx : S x) : h x ≠ none := by
  rcases R with ⟨bm, M, S1, S2, e1, R1, R2, ok, e2, e3, e4, e5, dd, rfl⟩ | ⟨ba, e1, o1, o2, e2, e3, e4, nn, rfl⟩
  · exact hx.elim R1.live R2.live
  · exact hx.elim (fun e => by subst e; exact o1.live) (fun e => by subst e; exact o2.live)
theorem PairR.rd {h0 mo ro L S h} (P : PairR h0 mo ro L S h) : ∃ br n q cs lg, ro = some (ptr br) ∧ n ≤ 8 ∧ Rd h0 mo br n q cs lg L S h := by
  cases P with
  | ok e1 e2 R1 R2 d k => exact ⟨_, _, _, _, _, e2, k.n8, .inl ⟨_, _, _, _, e1, R1, R2, k, rfl, rfl, rfl, rfl, d, rfl⟩⟩
  | bad e1 e2 o1 o2 n1 n2 l => exact ⟨_, 0, fun _ => [], _, _, e2, by decide, .inr ⟨_, e1, o1, o2, rfl, rfl, rfl, ⟨n1, n2, l⟩, rfl⟩⟩
theorem Rd.pair {h0 mo br n q cs lg L S h} (R : Rd h0 mo br n q cs lg L S h) : PairR h0 mo (some (ptr br)) L S h := by
  rcases R with ⟨bm, M, S1, S2, e1, R1, R2, ok, e2, e3, e4, e5, dd, rfl⟩ | ⟨ba, e1, o1, o2, e2, e3, e4, nn, rfl⟩
  · exact .ok e1 rfl R1 R2 dd ok
  · exact .bad e1 rfl o1 o2 nn.1 nn.2.1 nn.2.2
section
variable {h0 : Heap} {mo : Option Addr} {br n : Nat} {q : Nat → List Wait} {cs : List Int} {lg : List Acc} {L : Nat} {S : Nat → Prop} {h : Heap} (R : Rd h0 mo br n q cs lg L S h)
include R
theorem Rd.len {K : Sl → Prop} (hK : ∀ qs : Sl, (qs.len : Int) = n → K qs) : deref (some (ptr br)) fun a => ld .sl h (a.add 2) K := by
  rcases R with ⟨bm, M, S1, S2, e1, R1, R2, ok, rfl, rfl, rfl, rfl, dd, rfl⟩ | ⟨ba, e1, o1, o2, rfl, rfl, rfl, nn, rfl⟩
  · exact deref_some (R2.ldQ fun qs els no ne hl => hK qs hl)
  · exact deref_some (Bad.ld2 ⟨_, o1, o2⟩ (hK Sl.none rfl))
theorem Rd.row {cW : Option Addr → Int → Heap → (Sl → Heap → Prop) → Prop} (iW : WaitC cW) {i : Nat} (hi : i < n) {K : Sl → Sl → Heap → Prop} (hK : ∀ s sl h1, New h h1 KWt s (q i) → (q i).length ≤ 64 → Arr h1 KWt sl (q i) → (∀ x, blkOf sl x → S x) → K s sl h1) :
    deref (some (ptr br)) fun a13 => ld (.sl : Kd) h (a13.add 2) fun t14 => (0 ≤ ((i : Nat) : Int) ∧ ((i : Nat) : Int) < (t14.len : Int)) ∧ deref t14.a fun a15 => ld (.sl : Kd) h (a15.add ((((i : Nat) : Int)).toNat * 1)) fun t16 =>
      cW mo ((i : Nat) : Int) h fun r17 h18 => sees h18 (some (a15.add ((((i : Nat) : Int)).toNat * 1))) (.sl : Kd) t16 ∧ sees h18 (some (a13.add 2)) (.sl : Kd) t14 ∧ K r17 t16 h18 := by
  rcases R with ⟨bm, M, S1, S2, rfl, R1, ⟨ba, c, l, qs, els, who, rfl, o⟩, ok, rfl, rfl, rfl, rfl, dd, rfl⟩ | ⟨ba, e1, o1, o2, rfl, rfl, rfl, nn, rfl⟩
  · obtain ⟨qa, qn, qc, rfl⟩ := o.qsome (by omega)
    obtain ⟨sl, hsl, nsl, hb, hqn⟩ := o.rowQ (g := h) hi
    refine deref_some (o.ld2 ⟨hb, deref_some (o.q.out.arr.atA (i := (i : Int)) hb.1 hb.2 rfl fun y hy => ?_)⟩)
    rw [Int.toNat_natCast, hsl] at hy
    cases hy
    refine iW R1 ok (fun hn => absurd ⟨by omega, by omega⟩ hn) fun j s h1 hj hjn n1 => ?_
    obtain rfl : i = j := by omega
    have o1 := o.more n1.le
    refine ⟨o1.q.out.arr.sees (i := (i : Int)) hb.1 hb.2 (by rw [Int.toNat_natCast]; exact hsl) rfl, o1.see2, hK s sl h1 n1 ?_ (nsl.more n1.le).arr fun x p => .inr (.inr (.inr (.inr ⟨sl, List.mem_of_getElem? hsl, p⟩)))⟩
    have := ok.ql i; have := ok.r64; omega
  · omega
theorem Rd.cells {cC : Option Addr → Heap → (Sl → Heap → Prop) → Prop} (iC : CellsC cC) (nC : ∀ {h : Heap} {Q : Sl → Heap → Prop}, Q ⟨none, 0, 0⟩ h → cC none h Q) (hL : L ≤ 1000000000) {K : Sl → Sl → Heap → Prop} (hK : ∀ s t h1, New h h1 ki s cs → cs.length ≤ 1000000000 → Arr h1 ki t cs → (∀ x, blkOf t x → S x) → K s t h1) :
    deref (some (ptr br)) fun a21 => ld (.ptr : Kd) h (a21.add 0) fun t22 => deref t22 fun a23 => ld (.sl : Kd) h (a23.add 1) fun t24 => cC mo h fun r25 h26 => sees h26 (some (a23.add 1)) (.sl : Kd) t24 ∧ sees h26 (some (a21.add 0)) (.ptr : Kd) t22 ∧ K r25 t24 h26 := by
  rcases R with ⟨bm, M, S1, S2, rfl, R1, ⟨ba, c, l, qs, els, who, rfl, o⟩, ok, rfl, rfl, rfl, rfl, dd, rfl⟩ | ⟨ba, rfl, o1, o2, rfl, rfl, rfl, nn, rfl⟩
  · refine deref_some (o.ld0 (deref_some (o.ar.ld1 (iC R1 ok hL fun s h1 n1 => ?_))))
    have o1 := o.more n1.le
    refine ⟨ld_sees (o1.ar.ld1 rfl), ld_sees (o1.ld0 rfl), hK s c h1 n1 (by have := ok.cs; have := ok.sz; omega) o1.ar.cell.arr fun x p => .inr (.inr (.inl (.inr (.inl p))))⟩
  · exact deref_some (o1.ld (kf := .ptr) (y := some (ptr ba)) ⟨[], _, rfl, rfl⟩ (deref_some (badA1 o2 (nC ⟨ld_sees (badA1 o2 rfl), o1.sees (kf := .ptr) (y := some (ptr ba)) ⟨[], _, rfl, rfl⟩, hK _ _ h (New.none (Go.Mx.le.refl _) ki) (by decide) (New.none (Go.Mx.le.refl h) ki).arr fun x p => (no_blk p).elim⟩))))
theorem Rd.logs {cC : Option Addr → Heap → (Sl → Heap → Prop) → Prop} (iC : LogC cC) (nC : ∀ {h : Heap} {Q : Sl → Heap → Prop}, Q ⟨none, 0, 0⟩ h → cC none h Q) (hL : L ≤ 1000000000) {K : Sl → Sl → Heap → Prop} (hK : ∀ s t h1, New h h1 KAcc s lg → lg.length ≤ 1000000000 → Arr h1 KAcc t lg → (∀ x, blkOf t x → S x) → K s t h1) :
    deref (some (ptr br)) fun a21 => ld (.ptr : Kd) h (a21.add 0) fun t22 => deref t22 fun a23 => ld (.sl : Kd) h (a23.add 4) fun t24 => cC mo h fun r25 h26 => sees h26 (some (a23.add 4)) (.sl : Kd) t24 ∧ sees h26 (some (a21.add 0)) (.ptr : Kd) t22 ∧ K r25 t24 h26 := by
  rcases R with ⟨bm, M, S1, S2, rfl, R1, ⟨ba, c, l, qs, els, who, rfl, o⟩, ok, rfl, rfl, rfl, rfl, dd, rfl⟩ | ⟨ba, rfl, o1, o2, rfl, rfl, rfl, nn, rfl⟩
  · refine deref_some (o.ld0 (deref_some (o.ar.ld4 (iC R1 ok hL fun s h1 n1 => ?_))))
    have o1 := o.more n1.le
    refine ⟨ld_sees (o1.ar.ld4 rfl), ld_sees (o1.ld0 rfl), hK s l h1 n1 (by have := ok.lg; omega) o1.ar.log.arr fun x p => .inr (.inr (.inl (.inr (.inr p))))⟩
  · exact deref_some (o1.ld (kf := .ptr) (y := some (ptr ba)) ⟨[], _, rfl, rfl⟩ (deref_some (badA4 o2 (nC ⟨ld_sees (badA4 o2 rfl), o1.sees (kf := .ptr) (y := some (ptr ba)) ⟨[], _, rfl, rfl⟩, hK _ _ h (New.none (Go.Mx.le.refl _) KAcc) (by decide) (New.none (Go.Mx.le.refl h) KAcc).arr fun x p => (no_blk p).elim⟩))))
end
/-- A list that was just handed out is kept. -/
theorem kept_one {k : Kd} {ck : Option Addr → Sl → Sl → Heap → (Bool → Heap → Prop) → Prop} (iK : KpC k ck) {h0 h h1 : Heap} {mo : Option Addr} {br n : Nat} {q : Nat → List Wait} {cs : List Int} {lg : List Acc} {L b c : Nat} {S F : Nat → Prop} (P : Rd h0 mo br n q cs lg L S h) (R : KpR h0 b c F h) (d : ∀ x, S x → ¬ F x) (hc : c ≤ 100000000) {s t : Sl} {xs : List (Den k)}
    (ns : New h h1 k s xs) (hx : xs.length ≤ 1000000000) (at' : Arr h1 k t xs) (tS : ∀ x, blkOf t x → S x) {Q : Bool → Heap → Prop} (hQ : ∀ F' h', Rd h0 mo br n q cs lg L S h' → KpR h0 b (c + 1) F' h' → (∀ x, S x → ¬ F' x) → Step (fun x => S x ∨ F x) (fun x => S x ∨ F' x) h h' → Q true h') : ck (some (ptr b)) s t h1 Q := by
  have l1 := ns.le
  have lR := R.le
  have R1 := R.ext (T := fun _ => False) l1.toExt (fun _ _ => id) (fun _ q => q.elim)
  have P1 := P.ext (T := fun _ => False) l1.toExt (fun _ _ => id) (fun _ q => q.elim)
  refine iK R1 hc (ns.base lR) (fun x p f => R.live f (ns.new x p)) at' (fun x p f => d x (tS x p) f) hx fun F' h' R' st => ?_
  have off : ∀ x, S x → ¬ (F x ∨ blkOf s x) := fun x p q => q.elim (d x p) fun q => P.live p (ns.new x q)
  refine hQ F' h' (P1.ext st.1 off fun x q => q.elim R.fresh fun q => lR.none (ns.new x q)) R' (st.off off fun x p => P1.live p) ⟨⟨fun x o e nb => ?_, fun x e => l1.none (st.1.2 x e)⟩, fun x q => ?_⟩
  · refine st.1.1 x o ((l1.toExt (S := fun _ => False)).1 x o e id) fun z => z.elim (fun z => nb (.inr z)) fun z => ?_
    have := ns.new x z; rw [this] at e; cases e
  · rcases q with q | q
    · exact .inl (.inl q)
    · rcases st.2 x q with (r | r) | r
      · exact .inl (.inr r)
      · exact .inr (ns.new x r)
      · exact .inr (l1.none r)
def AskedC (c : Option Addr → Option Addr → Option Addr → Heap → (Bool → Heap → Prop) → Prop) : Prop := ∀ {h0 h : Heap} {mo : Option Addr} {br n : Nat} {q : Nat → List Wait} {cs : List Int} {lg : List Acc} {L b k : Nat} {S F : Nat → Prop} {Q : Bool → Heap → Prop}, Rd h0 mo br n q cs lg L S h → n ≤ 8 → KpR h0 b k F h → (∀ x, S x → ¬ F x) → L ≤ 1000000000 → k + 20 ≤ 100000000 →
  (∀ F' h', Rd h0 mo br n q cs lg L S h' → KpR h0 b (k + 20) F' h' → (∀ x, S x → ¬ F' x) → Step (fun x => S x ∨ F x) (fun x => S x ∨ F' x) h h' → Q true h') → c (some (ptr b)) mo (some (ptr br)) h Q
theorem asked_spec {cW cKw cC cKn cL cKa} (iW : WaitC cW) (iKw : KpC KWt cKw) (iC : CellsC cC) (nC : ∀ {h : Heap} {Q : Sl → Heap → Prop}, Q ⟨none, 0, 0⟩ h → cC none h Q) (iKn : KpC ki cKn) (iL : LogC cL) (nL : ∀ {h : Heap} {Q : Sl → Heap → Prop}, Q ⟨none, 0, 0⟩ h → cL none h Q) (iKa : KpC KAcc cKa) : AskedC (law21_Kept_asked.M cW cKw cC cKn cL cKa) := by
  intro h0 h mo br n q cs lg L b k S F Q P hn R d0 hL hk hQ
  refine Loop.up 2 (fun s => s.1) (fun j _ g => ∃ F', Rd h0 mo br n q cs lg L S g ∧ KpR h0 b (k + 10 * j) F' g ∧ (∀ x, S x → ¬ F' x) ∧ Step (fun x => S x ∨ F x) (fun x => S x ∨ F' x) h g) rfl ⟨F, P, R, d0, Step.refl _ _⟩ ?_
  rintro j ⟨j', u⟩ g go hj hc ⟨F1, P1, R1, d1, s1⟩ hgo
  dsimp only at hc; subst hc
  have out : ¬ (j : Int) < 2 → Q true g := fun e => by
    obtain rfl : j = 2 := by omega
    exact hQ F1 g P1 R1 d1 s1
  refine ⟨fun e => ?_, fun e => out (of_decide_eq_false e)⟩
  have hj2 : j < 2 := by have e : (j : Int) < 2 := of_decide_eq_true e; omega
  refine Loop.up n (fun s => s.1) (fun i _ g2 => ∃ F', Rd h0 mo br n q cs lg L S g2 ∧ KpR h0 b (k + 10 * j + i) F' g2 ∧ (∀ x, S x → ¬ F' x) ∧ Step (fun x => S x ∨ F x) (fun x => S x ∨ F' x) h g2) rfl ⟨F1, P1, R1, d1, s1⟩ ?_
  rintro i ⟨i', u2⟩ g2 go2 hi hc ⟨F2, P2, R2, d2, s2⟩ hgo2
  dsimp only at hc; subst hc
  refine P2.len fun qs hqs => ⟨fun e => ?_, fun e => ?_⟩
  · have e : (i : Int) < (qs.len : Int) := of_decide_eq_true e
    have hin : i < n := by omega
    refine P2.row iW hin fun s sl h1 ns hq as' sS => kept_one iKw P2 R2 d2 (by omega) ns (by omega) as' sS fun F' h' P3 R3 d3 s3 => ⟨fun e => (by cases e), fun _ => ?_⟩
    exact hgo2 hin _ _ (by show w64 ((i : Int) + 1) = _; rw [w64_of] <;> omega) ⟨F', P3, R3, d3, s2.trans s3⟩
  · refine P2.cells iC nC hL fun s t h1 ns hq as' sS => kept_one iKn P2 R2 d2 (by omega) ns hq as' sS fun F' h' P3 R3 d3 s3 => ⟨fun e => (by cases e), fun _ => ?_⟩
    refine P3.logs iL nL hL fun s' t' h2 ns' hq' as'' sS' => kept_one iKa P3 R3 d3 (by omega) ns' hq' as'' sS' fun F4 h4 P4 R4 d4 s4 => ⟨fun e => (by cases e), fun _ => ?_⟩
    exact hgo hj2 _ _ (by show w64 ((j : Int) + 1) = _; rw [w64_of] <;> omega) ⟨F4, P4, R4.mono (by omega), d4, (s2.trans s3).trans s4⟩

/-! ### alone -/
theorem cmpK {k : Kd} {cs : Sl → Sl → Heap → (Bool → Heap → Prop) → Prop} (iS : SameKC k cs) {h0 h : Heap} {b i : Nat} {X : Den KKp} {o1 o2 : Sl} {e1 e2 : List Sl} {xss : List (List (Den k))} (ob : Obj h b KKp X) (p1 : PartAt KKp .sl i X o1) (p2 : PartAt KKp .sl (i + 1) X o2) (n1 : Nest h0 h k o1 e1 xss) (n2 : Nest h0 h k o2 e2 xss) (hl : xss.length ≤ 1000000000) (hr : ∀ xs ∈ xss, xs.length ≤ 1000000000)
    {Q : Bool → Heap → Prop} {cont : Heap → Prop} (hQ : cont h) {body : ((Int × Unit) → Heap → Prop) → (Int × Unit) → Heap → Prop}
    (hbody : ∀ go s g, body go s g = (deref (some (ptr b)) fun a21 => ld (.sl : Kd) g (a21.add i) fun t22 => (((decide (s.1 < (t22.len : Int))) = true → deref (some (ptr b)) fun a23 => deref (some (ptr b)) fun a24 => ld (.sl : Kd) g (a23.add i) fun t25 => (0 ≤ s.1 ∧ s.1 < (t25.len : Int)) ∧ deref t25.a fun a26 => ld (.sl : Kd) g (a26.add ((s.1 : Int).toNat * 1)) fun t27 =>
      ld (.sl : Kd) g (a24.add (i + 1)) fun t28 => (0 ≤ s.1 ∧ s.1 < (t28.len : Int)) ∧ deref t28.a fun a29 => ld (.sl : Kd) g (a29.add ((s.1 : Int).toNat * 1)) fun t30 => cs t27 t30 g fun r31 h32 => (((!r31) = true → Q false h32) ∧ ((!r31) = false → go ((w64 (s.1 + 1)), ()) h32))) ∧ ((decide (s.1 < (t22.len : Int))) = false → cont g)))) : Loop body (0, ()) h := by
  have l1 := n1.out.len
  have l2 := n2.out.len
  have m1 := n1.len
  have m2 := n2.len
  refine Loop.up xss.length (fun s => s.1) (fun j _ g => g = h) rfl rfl ?_
  rintro j ⟨j', u⟩ g go hj hc ⟨⟩ hgo
  dsimp only at hc; subst hc
  rw [hbody]
  refine deref_someV (ob.ld p1 ⟨fun d => ?_, fun _ => hQ⟩)
  have d : (j : Int) < (o1.len : Int) := of_decide_eq_true d
  have b1 : 0 ≤ (j : Int) ∧ (j : Int) < (o1.len : Int) := ⟨by omega, d⟩
  have b2 : 0 ≤ (j : Int) ∧ (j : Int) < (o2.len : Int) := ⟨by omega, by omega⟩
  refine deref_someV (deref_someV (ob.ld p1 ⟨b1, n1.out.arr.at (i := (j : Int)) b1.1 b1.2 rfl fun y hy => ob.ld p2 ⟨b2, n2.out.arr.at (i := (j : Int)) b2.1 b2.2 rfl fun z hz => ?_⟩⟩))
  rw [Int.toNat_natCast] at hy hz
  have hjx : j < xss.length := by omega
  have hx : xss[j]? = some xss[j] := by simp [hjx]
  refine iS (n1.row j y _ hy hx).arr (n2.row j z _ hz hx).arr (hr _ (List.getElem_mem ..)) ⟨fun e => (by cases e), fun _ => ?_⟩
  exact hgo hjx _ _ (by show w64 ((j : Int) + 1) = _; rw [w64_of] <;> omega) rfl
/-- A shelf that took some of the lists of the heap h. -/
def ShT (h0 h : Heap) (sb : Nat) (T : Nat → Prop) (N : Nat) (g : Heap) : Prop := (∀ x, T x → h0 x = none) ∧ ∃ F, ShR h0 sb N F g ∧ Ext (fun x => T x) h g ∧ ∀ x, F x → h x = none ∨ T x
theorem keepT {k : Kd} {ck : Sl → Heap → (Unit → Heap → Prop) → Prop} {h0 h g : Heap} {sb N : Nat} {T : Nat → Prop} (hh : Go.Mx.le h0 h) {cK : Option Addr → Sl → Sl → Sl → Heap → (Unit → Heap → Prop) → Prop} (iK : KeepC cK) {w : Sl} {xs : List (Den k)}
    (hck : (k = KWt ∧ ck = fun t g K => cK (some (ptr sb)) t ⟨none, 0, 0⟩ ⟨none, 0, 0⟩ g K) ∨ (k = ki ∧ ck = fun t g K => cK (some (ptr sb)) ⟨none, 0, 0⟩ t ⟨none, 0, 0⟩ g K) ∨ (k = KAcc ∧ ck = fun t g K => cK (some (ptr sb)) ⟨none, 0, 0⟩ ⟨none, 0, 0⟩ t g K))
    (R : ShT h0 h sb T N g) (hN : N ≤ 1000000000) (n : New h0 h k w xs) (d : ∀ x, blkOf w x → ¬ T x) (hx : xs.length ≤ 1000000000) {Q : Unit → Heap → Prop} (hQ : ∀ g', ShT h0 h sb (fun x => T x ∨ blkOf w x) (N + 1) g' → Q () g') : ck w g Q := by
  obtain ⟨f, F, R1, e1, f1⟩ := R
  have ng := n.ext e1 d f
  have nn := New.none R1.le KWt
  have ni := New.none R1.le ki
  have na := New.none R1.le KAcc
  have off : ∀ x, blkOf w x → ¬ F x := fun x p q => by
    rcases f1 x q with c | c
    · exact n.own.live x p c
    · exact d x p c
  have fin : ∀ F' g', ShR h0 sb (N + 1) F' g' → Ext (fun x => F x ∨ blkOf w x) g g' → (∀ x, F' x → (F x ∨ blkOf w x) ∨ g x = none) → Q () g' := fun F' g' R' e' f' => hQ g' ⟨fun x q => q.elim (f x) (n.new x), F', R', ⟨fun x o a nb => e'.1 x o (e1.1 x o a fun q => nb (.inl q)) fun q => ?_, fun x q => e1.2 x (e'.2 x q)⟩, fun x q => ?_⟩
  · rcases hck with ⟨rfl, rfl⟩ | ⟨rfl, rfl⟩ | ⟨rfl, rfl⟩
    · refine iK R1 hN ng ni na hx (by decide) (by decide) (fun x q => ?_) (fun x q => ⟨no_blk, no_blk⟩) (fun x q => no_blk) fun F' g' R' st => fin F' g' R' (st.1.mono fun x q => ?_) fun x q => ?_
      · exact q.elim (off x) fun q => q.elim (fun q => (no_blk q).elim) fun q => (no_blk q).elim
      · exact q.elim .inl fun q => q.elim .inr fun q => q.elim (fun q => (no_blk q).elim) fun q => (no_blk q).elim
      · exact (st.2 x q).elim (fun q => .inl (q.elim .inl fun q => q.elim .inr fun q => q.elim (fun q => (no_blk q).elim) fun q => (no_blk q).elim)) .inr
    · refine iK R1 hN nn ng na (by decide) hx (by decide) (fun x q => ?_) (fun x q => (no_blk q).elim) (fun x q => no_blk) fun F' g' R' st => fin F' g' R' (st.1.mono fun x q => ?_) fun x q => ?_
      · exact q.elim (fun q => (no_blk q).elim) fun q => q.elim (off x) fun q => (no_blk q).elim
      · exact q.elim .inl fun q => q.elim (fun q => (no_blk q).elim) fun q => q.elim .inr fun q => (no_blk q).elim
      · exact (st.2 x q).elim (fun q => .inl (q.elim .inl fun q => q.elim (fun q => (no_blk q).elim) fun q => q.elim .inr fun q => (no_blk q).elim)) .inr
    · refine iK R1 hN nn ni ng (by decide) (by decide) hx (fun x q => ?_) (fun x q => (no_blk q).elim) (fun x q => (no_blk q).elim) fun F' g' R' st => fin F' g' R' (st.1.mono fun x q => ?_) fun x q => ?_
      · exact q.elim (fun q => (no_blk q).elim) fun q => q.elim (fun q => (no_blk q).elim) (off x)
      · exact q.elim .inl fun q => q.elim (fun q => (no_blk q).elim) fun q => q.elim (fun q => (no_blk q).elim) .inr
      · exact (st.2 x q).elim (fun q => .inl (q.elim .inl fun q => q.elim (fun q => (no_blk q).elim) fun q => q.elim (fun q => (no_blk q).elim) .inr)) .inr
  · rcases q with q | q
    · rcases f1 x q with c | c
      · rw [c] at a; cases a
      · exact nb (.inl c)
    · exact nb (.inr q)
  · rcases f' x q with (q | q) | q
    · exact (f1 x q).elim .inl fun q => .inr (.inl q)
    · exact .inr (.inr q)
    · exact .inl (e1.2 x q)
theorem ShT.eq {h0 h sb T T' N g} (R : ShT h0 h sb T N g) (e : ∀ x, T x ↔ T' x) : ShT h0 h sb T' N g := by
  have : T = T' := funext fun x => propext (e x)
  subst this; exact R
theorem keepL {k : Kd} {ck : Sl → Heap → (Unit → Heap → Prop) → Prop} {h0 h g : Heap} {sb N b i : Nat} {T0 : Nat → Prop} (hh : Go.Mx.le h0 h) {cK : Option Addr → Sl → Sl → Sl → Heap → (Unit → Heap → Prop) → Prop} (iK : KeepC cK)
    (hck : (k = KWt ∧ ck = fun t g K => cK (some (ptr sb)) t ⟨none, 0, 0⟩ ⟨none, 0, 0⟩ g K) ∨ (k = ki ∧ ck = fun t g K => cK (some (ptr sb)) ⟨none, 0, 0⟩ t ⟨none, 0, 0⟩ g K) ∨ (k = KAcc ∧ ck = fun t g K => cK (some (ptr sb)) ⟨none, 0, 0⟩ ⟨none, 0, 0⟩ t g K))
    {X : Den KKp} {o : Sl} {e : List Sl} {xss : List (List (Den k))} (ob : Obj h b KKp X) (p : PartAt KKp .sl i X o) (n : Nest h0 h k o e xss) (db : ¬ fpN o e b) (dT : ∀ x, fpN o e x → ¬ T0 x) (bT : ¬ T0 b) (R : ShT h0 h sb T0 N g) (hN : N + xss.length ≤ 1000000000) (hr : ∀ xs ∈ xss, xs.length ≤ 1000000000)
    {cont : Heap → Prop} (hQ : ∀ g', ShT h0 h sb (fun x => T0 x ∨ ∃ sl ∈ e, blkOf sl x) (N + xss.length) g' → cont g') {body : ((Int × Unit) → Heap → Prop) → (Int × Unit) → Heap → Prop}
    (hbody : ∀ go s g, body go s g = (deref (some (ptr b)) fun a75 => ld (.sl : Kd) g (a75.add i) fun t76 => (((decide (s.1 < (t76.len : Int))) = true → deref (some (ptr b)) fun a77 => ld (.sl : Kd) g (a77.add i) fun t78 => (0 ≤ s.1 ∧ s.1 < (t78.len : Int)) ∧ deref t78.a fun a79 => ld (.sl : Kd) g (a79.add ((s.1 : Int).toNat * 1)) fun t80 => ck t80 g fun r81 h82 => go ((w64 (s.1 + 1)), ()) h82) ∧ ((decide (s.1 < (t76.len : Int))) = false → cont g)))) : Loop body (0, ()) g := by
  have ol := n.out.len
  have el := n.len
  obtain ⟨sp1, sp2⟩ := List.pairwise_cons.1 n.sep
  refine Loop.up xss.length (fun s => s.1) (fun j _ g => ShT h0 h sb (fun x => T0 x ∨ ∃ sl ∈ e.take j, blkOf sl x) (N + j) g) rfl (R.eq fun x => ⟨.inl, fun q => q.elim id fun ⟨sl, hs, _⟩ => (by cases hs)⟩) ?_
  rintro j ⟨j', u⟩ g2 go hj hc R2 hgo
  dsimp only at hc; subst hc
  rw [hbody]
  obtain ⟨f2, F, RF, e2, g2f⟩ := R2
  have bT2 : ¬ (T0 b ∨ ∃ sl ∈ e.take j, blkOf sl b) := fun q => q.elim bT fun ⟨sl, hs, q⟩ => db (.inr ⟨sl, List.mem_of_mem_take hs, q⟩)
  have oT2 : ∀ x, blkOf o x → ¬ (T0 x ∨ ∃ sl ∈ e.take j, blkOf sl x) := fun x q z => z.elim (dT x (.inl q)) fun ⟨sl, hs, z⟩ => sp1 sl (List.mem_of_mem_take hs) x q z
  have ob2 := ob.ext e2 bT2
  have oa2 := Arr.ext e2 n.out.arr oT2
  refine deref_someV (ob2.ld p ⟨fun d => ?_, fun d => ?_⟩)
  · have d : (j : Int) < (o.len : Int) := of_decide_eq_true d
    have b1 : 0 ≤ (j : Int) ∧ (j : Int) < (o.len : Int) := ⟨by omega, d⟩
    refine deref_someV (ob2.ld p ⟨b1, oa2.at (i := (j : Int)) b1.1 b1.2 rfl fun y hy => ?_⟩)
    rw [Int.toNat_natCast] at hy
    have hjx : j < xss.length := by omega
    have hx : xss[j]? = some xss[j] := by simp [hjx]
    have hym := List.mem_of_getElem? hy
    refine keepT hh iK hck ⟨f2, F, RF, e2, g2f⟩ (by omega) (n.row j y _ hy hx) (fun x q z => ?_) (hr _ (List.getElem_mem ..)) fun g3 R3 => hgo hjx _ _ (by show w64 ((j : Int) + 1) = _; rw [w64_of] <;> omega) (R3.eq fun x => ?_)
    · rcases z with z | ⟨sl, hs, z⟩
      · exact dT x (.inr ⟨y, hym, q⟩) z
      · obtain ⟨i', hi', rfl⟩ := List.mem_iff_getElem.1 hs
        rw [List.length_take] at hi'
        have hjl := (List.getElem?_eq_some_iff.1 hy)
        obtain ⟨hjl1, rfl⟩ := hjl
        rw [List.getElem_take] at z
        exact List.pairwise_iff_getElem.1 sp2 i' j (by omega) hjl1 (by omega) x z q
    · have ht : e.take (j + 1) = e.take j ++ [y] := by rw [List.take_add_one, hy]; rfl
      rw [ht]
      constructor
      · rintro ((z | ⟨sl, hs, z⟩) | z)
        · exact .inl z
        · exact .inr ⟨sl, List.mem_append_left _ hs, z⟩
        · exact .inr ⟨y, List.mem_append_right _ (List.mem_singleton.2 rfl), z⟩
      · rintro (z | ⟨sl, hs, z⟩)
        · exact .inl (.inl z)
        · rcases List.mem_append.1 hs with hs | hs
          · exact .inl (.inr ⟨sl, hs, z⟩)
          · rw [List.mem_singleton] at hs; subst hs; exact .inr z
  · have d : ¬ (j : Int) < (o.len : Int) := of_decide_eq_false d
    obtain rfl : j = xss.length := by omega
    refine hQ g2 (ShT.eq ⟨f2, F, RF, e2, g2f⟩ fun x => ?_)
    rw [List.take_of_length_le (by omega)]
def AloneC (c : Option Addr → Heap → (Bool → Heap → Prop) → Prop) : Prop := ∀ {h0 h : Heap} {b k : Nat} {F : Nat → Prop} {Q : Bool → Heap → Prop}, KpR h0 b k F h → k ≤ 100000000 → (∀ h', Go.Mx.le h0 h' → Q true h') → c (some (ptr b)) h Q
theorem alone_spec {cW cN cL cK cS} (iW : SameKC KWt cW) (iN : SameKC ki cN) (iL : SameKC KAcc cL) (iK : KeepC cK) (iS : StandC cS) : AloneC (law21_Kept_alone.M cW cN cL cK cS) := by
  intro h0 h b k F Q R hk hQ
  obtain ⟨o, e, X, sum, s, B, rfl⟩ := R
  have n0 : Nest h0 h KWt (o 0) (e 0) (X 0) := s.n 0 (by decide)
  have n1 : Nest h0 h KWt (o 1) (e 1) (X 0) := by have := s.n 1 (by decide); have e1 := B.w; rw [e1]; exact this
  have n2 : Nest h0 h ki (o 2) (e 2) (X 2) := s.n 2 (by decide)
  have n3 : Nest h0 h ki (o 3) (e 3) (X 2) := by have := s.n 3 (by decide); have e1 := B.n; rw [e1]; exact this
  have n4 : Nest h0 h KAcc (o 4) (e 4) (X 4) := s.n 4 (by decide)
  have n5 : Nest h0 h KAcc (o 5) (e 5) (X 4) := by have := s.n 5 (by decide); have e1 := B.l; rw [e1]; exact this
  have c0 := B.c 0 (by decide)
  have c2 := B.c 2 (by decide)
  have c4 := B.c 4 (by decide)
  have q0 := Nat.le_trans c0 hk
  have q2 := Nat.le_trans c2 hk
  have q4 := Nat.le_trans c4 hk
  have z0 : ∀ {a : Nat}, a ≤ 100000000 → a ≤ 1000000000 := fun h => by omega
  have z1 : ∀ {a : Nat}, a ≤ 100000000 → 0 + a ≤ 1000000000 := fun h => by omega
  have z2 : ∀ {a b : Nat}, a ≤ 100000000 → b ≤ 100000000 → 0 + a + b ≤ 1000000000 := fun h h' => by omega
  have z3 : ∀ {a b c : Nat}, a ≤ 100000000 → b ≤ 100000000 → c ≤ 100000000 → 0 + a + b + c ≤ 1000000000 := fun h h' h'' => by omega
  have pt : ∀ {i : Nat}, i < 6 → PartAt KKp .sl i (objV o sum) (o i) := fun hi => objV_part o sum hi
  have sl := s.le
  refine cmpK iW (i := 0) s.obj (pt (by decide)) (pt (by decide)) n0 n1 (z0 q0) (B.bd 0 (by decide)) (Q := Q) (cont := fun h => Loop (law21_Kept_alone.l5 cN cL cK cS (some (ptr b)) Q) (0, ()) h) ?_ (fun go s g => rfl)
  refine cmpK iN (i := 2) s.obj (pt (by decide)) (pt (by decide)) n2 n3 (z0 q2) (B.bd 2 (by decide)) (Q := Q) (cont := fun h => Loop (law21_Kept_alone.l4 cL cK cS (some (ptr b)) Q) (0, ()) h) ?_ (fun go s g => rfl)
  refine cmpK iL (i := 4) s.obj (pt (by decide)) (pt (by decide)) n4 n5 (z0 q4) (B.bd 4 (by decide)) (Q := Q) (cont := fun h => new h (klaw21shelf.cells (Sl.none, (Sl.none, (Sl.none, ())))) fun p48 h49 => Loop (law21_Kept_alone.l3 cK cS (some (ptr b)) Q p48) (0, ()) h49) ?_ (fun go s g => rfl)
  refine ShR.start s.le fun sb F0 g R0 l0 f0 => ?_
  have d : ∀ {i j : Nat}, i < 6 → j < 6 → i ≠ j → ∀ x, fpN (o i) (e i) x → ¬ ∃ sl ∈ e j, blkOf sl x := fun hi hj hij x q ⟨sl, hs, z⟩ => s.dd _ _ hi hj hij x q (.inr ⟨sl, hs, z⟩)
  have db : ∀ {i : Nat}, i < 6 → ¬ ∃ sl ∈ e i, blkOf sl b := fun hi ⟨sl, hs, z⟩ => s.d _ hi (.inr ⟨sl, hs, z⟩)
  have S0 : ShT h0 h sb (fun _ => False) 0 g := ⟨fun x q => q.elim, F0, R0, l0.toExt, fun x q => .inl (f0 x q)⟩
  refine keepL sl iK (.inl ⟨rfl, rfl⟩) s.obj (pt (i := 0) (by decide)) n0 (s.d 0 (by decide)) (fun x _ q => q) id S0 (z1 q0) (B.bd 0 (by decide)) (cont := fun h => Loop (law21_Kept_alone.l2 cK cS (some (ptr b)) Q (ptr sb)) (0, ()) h) (fun g1 S1 => ?_) (fun go s g => rfl)
  refine keepL sl iK (.inr (.inl ⟨rfl, rfl⟩)) s.obj (pt (i := 2) (by decide)) n2 (s.d 2 (by decide)) (fun x p q => q.elim id (d (by decide) (by decide) (by decide) x p)) (fun q => q.elim id (db (by decide))) S1 (z2 q0 q2) (B.bd 2 (by decide)) (cont := fun h => Loop (law21_Kept_alone.l1 cK cS (some (ptr b)) Q (ptr sb)) (0, ()) h) (fun g2 S2 => ?_) (fun go s g => rfl)
  refine keepL sl iK (.inr (.inr ⟨rfl, rfl⟩)) s.obj (pt (i := 4) (by decide)) n4 (s.d 4 (by decide)) (fun x p q => q.elim (fun q => q.elim id (d (by decide) (by decide) (by decide) x p)) (d (by decide) (by decide) (by decide) x p)) (fun q => q.elim (fun q => q.elim id (db (by decide))) (db (by decide))) S2 (z3 q0 q2 q4) (B.bd 4 (by decide)) (cont := fun h => cS (some (ptr sb)) h fun r h' => Q r h') (fun g3 S3 => ?_) (fun go s g => rfl)
  obtain ⟨_, F3, R3, _, _⟩ := S3
  exact iS R3 (z3 q0 q2 q4) (hQ g3 R3.le)
end Go.Mx
