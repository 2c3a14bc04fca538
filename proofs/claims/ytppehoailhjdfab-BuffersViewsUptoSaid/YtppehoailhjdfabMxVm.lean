/-
  One move on the program's memory and on the document's.
-/
import Derived.Test.YtppehoailhjdfabMxVl
set_option linter.unusedVariables false
set_option linter.unusedSimpArgs false
set_option linter.unusedSectionVars false
namespace Go.Mx

/-! ### calls of nil -/
def HasNil (c : Option Addr → Int → Heap → (Bool → Heap → Prop) → Prop) : Prop := ∀ {h : Heap} {k : Int} {Q : Bool → Heap → Prop}, Q false h → c none k h Q
def NoneNil (c : Option Addr → Int → Heap → (Bool → Heap → Prop) → Prop) : Prop := ∀ {h : Heap} {a : Int} {Q : Bool → Heap → Prop}, Q true h → c none a h Q
theorem hasNil_spec : HasNil buffers_Memory_has.M := fun hQ => ⟨fun e => (by cases e), fun _ => hQ⟩
theorem noneNil_spec {cm} : NoneNil (buffers_View_none.M cm) := fun hQ => ⟨fun _ => hQ, fun e => (by cases e)⟩
theorem nilM_spec {ch cw cs ca cl} (iH : HasNil ch) : NilM (buffers_Memory_View.M ch) (buffers_Memory_Flush.M ch cw cs) (buffers_Memory_Waiting.M ch) (buffers_Memory_Cells.M ca) (buffers_Memory_Log.M cl) where
  v := fun hQ => iH ⟨fun _ => hQ, fun e => (by cases e)⟩
  f := fun hQ => iH ⟨fun _ => ⟨fun _ => hQ, fun e => (by cases e)⟩, fun e => (by cases e)⟩
  w := fun hQ => iH ⟨fun _ => hQ, fun e => (by cases e)⟩
  c := fun hQ => ⟨fun _ => hQ, fun e => (by cases e)⟩
  l := fun hQ => ⟨fun _ => hQ, fun e => (by cases e)⟩
theorem nilV_spec {cn cp cl cf cd cc ca c1 c2 cr} (iN : NoneNil cn) : NilV (buffers_View_Load.M cn cp cl) (buffers_View_Store.M cn cf) (buffers_View_CAS.M cn cd cp cc) (buffers_View_Add.M cn cd cp ca) (buffers_View_Reserve.M c1 c2 cd cp cr) where
  ld := fun hQ => iN ⟨fun _ => hQ, fun e => (by cases e)⟩
  st := fun hQ => iN ⟨fun _ => hQ, fun e => (by cases e)⟩
  cas := fun hQ => iN ⟨fun _ => hQ, fun e => (by cases e)⟩
  add := fun hQ => iN ⟨fun _ => hQ, fun e => (by cases e)⟩
  res := by
    intro h n Q hQ
    refine ⟨fun e => ?_, fun e => ⟨fun _ => ⟨fun _ => ?_, fun f => (by cases f)⟩, fun f => (by cases f)⟩⟩
    · rw [if_pos (of_decide_eq_true e)] at hQ; exact hQ
    · rw [if_neg (of_decide_eq_false e)] at hQ; exact hQ
def NilF (c : Option Addr → Heap → (Unit → Heap → Prop) → Prop) : Prop := ∀ {h : Heap} {Q : Unit → Heap → Prop}, Q () h → c none h Q
theorem nilF_spec {cd} : NilF (buffers_View_Fence.M cd) := fun hQ => ⟨fun e => (by cases e), fun _ => ⟨fun e => (by cases e), fun _ => hQ⟩⟩

theorem ShR.mono {h0 b N N' F h} (R : ShR h0 b N F h) (e : N ≤ N') : ShR h0 b N' F h := by
  obtain ⟨wo, no, lo, we, ne, le, ws, ns, ls, s, hK, q⟩ := R
  exact ⟨wo, no, lo, we, ne, le, ws, ns, ls, s, Nat.le_trans hK e, q⟩
theorem le_nil {h h' : Heap} (l : Go.Mx.le h h') {S : Nat → Prop} : Step S S h h' := ⟨l.toExt, fun x q => .inl q⟩

/-- A list that was just handed out goes onto the shelf. -/
theorem keep_one {ck} (iK : KeepC ck) {h0 h h1 : Heap} {mo ro : Option Addr} {L b N : Nat} {S F : Nat → Prop} (P : PairR h0 mo ro L S h) (R : ShR h0 b N F h) (d : ∀ x, S x → ¬ F x) (hN : N ≤ 1000000000) {w c l : Sl} {xs : List Wait} {ys : List Int} {zs : List Acc}
    (nw : New h h1 KWt w xs) (nc : New h h1 ki c ys) (nl : New h h1 KAcc l zs) (hx : xs.length ≤ 1000000000) (hy : ys.length ≤ 1000000000) (hz : zs.length ≤ 1000000000) (dw : ∀ x, blkOf w x → ¬ blkOf c x ∧ ¬ blkOf l x) (dc : ∀ x, blkOf c x → ¬ blkOf l x)
    {Q : Unit → Heap → Prop} (hQ : ∀ F' h', PairR h0 mo ro L S h' → ShR h0 b (N + 1) F' h' → (∀ x, S x → ¬ F' x) → Step (fun x => S x ∨ F x) (fun x => S x ∨ F' x) h h' → Q () h') : ck (some (ptr b)) w c l h1 Q := by
  have l1 := nw.le
  have lP := P.le
  have nn : ∀ x, blkOf w x ∨ blkOf c x ∨ blkOf l x → h x = none := fun x q => by
    rcases q with q | q | q
    · exact nw.new x q
    · exact nc.new x q
    · exact nl.new x q
  have R1 := R.ext (S := fun _ => False) l1.toExt (fun _ _ => id) (fun _ q => q.elim)
  have P1 := P.ext (T := fun _ => False) l1.toExt (fun _ _ => id) (fun _ q => q.elim)
  refine iK R1 hN (nw.base lP) (nc.base lP) (nl.base lP) hx hy hz (fun x q f => R.live f (nn x q)) dw dc fun F' h' R' s => ?_
  have off : ∀ x, S x → ¬ fpK F w c l x := fun x p q => by
    rcases q with q | q
    · exact d x p q
    · exact P.live p (nn x q)
  refine hQ F' h' (P1.ext s.1 off fun x q => ?_) R' (s.off off fun x p => P1.live p) ⟨⟨fun x o e nb => ?_, fun x e => l1.none (s.1.2 x e)⟩, fun x q => ?_⟩
  · rcases q with q | q
    · exact R.fresh q
    · exact lP.none (nn x q)
  · refine s.1.1 x o ((l1.toExt (S := fun _ => False)).1 x o e fun q => q) fun q => ?_
    rcases q with q | q
    · exact nb (.inr q)
    · have := nn x q; rw [this] at e; cases e
  · rcases q with q | q
    · exact .inl (.inl q)
    · rcases s.2 x q with r | r
      · rcases r with r | r
        · exact .inl (.inr r)
        · exact .inr (nn x r)
      · exact .inr (l1.none r)
def MovedC (c : Option Addr → Option Addr → AMv → Option Addr → Heap → (Bool → Heap → Prop) → Prop) : Prop := ∀ {h0 h : Heap} {mo ro : Option Addr} {L b N : Nat} {S F : Nat → Prop} {x : AMv} {Q : Bool → Heap → Prop}, PairR h0 mo ro L S h → ShR h0 b N F h → (∀ x, S x → ¬ F x) → L ≤ 800000000 → N ≤ 1000000000 →
  (∀ S' F' h', PairR h0 mo ro (L + 65) S' h' → ShR h0 b (N + 1) F' h' → (∀ x, S' x → ¬ F' x) → Step (fun x => S x ∨ F x) (fun x => S' x ∨ F' x) h h' → Q true h') → c mo ro x (some (ptr b)) h Q
theorem RmR.ldQ {h0 h : Heap} {br : Nat} {M : BM} {S : Nat → Prop} (R : RmR h0 br M S h) {K : Sl → Prop} (hK : ∀ qs els, New h0 h .sl qs els → Nest h0 h KWt qs els ((List.range M.n).map M.q) → (qs.len : Int) = M.n → K qs) : ld .sl h ((ptr br).add 2) K := by
  obtain ⟨ba, c, l, qs, els, who, rfl, o⟩ := R
  refine o.ld2 (hK qs els o.q.out o.q ?_)
  have h1 := o.q.out.len
  have h2 := o.q.len
  rw [List.length_map, List.length_range] at h2
  omega
theorem RmR.ldH {h0 h : Heap} {br : Nat} {M : BM} {S : Nat → Prop} (R : RmR h0 br M S h) {K : Sl → Prop} (hK : ∀ s, Arr h ki s M.cs → K s) : ld .ptr h ((ptr br).add 0) fun t => deref t fun a => ld .sl h (a.add 1) K := by
  obtain ⟨ba, c, l, qs, els, who, rfl, o⟩ := R
  exact o.ld0 (deref_some (o.ar.ld1 (hK _ o.ar.cell.arr)))
theorem RmR.ldB {h0 h : Heap} {br : Nat} {M : BM} {S : Nat → Prop} (R : RmR h0 br M S h) {K : Sl → Prop} (hK : ∀ s, Arr h KAcc s M.lg → K s) : ld .ptr h ((ptr br).add 0) fun t => deref t fun a => ld .sl h (a.add 4) K := by
  obtain ⟨ba, c, l, qs, els, who, rfl, o⟩ := R
  exact o.ld0 (deref_some (o.ar.ld4 (hK _ o.ar.log.arr)))

/-- The two memories move on together, the shelf stays. -/
theorem pair_on {h0 h h' : Heap} {bm br : Nat} {M M' : BM} {S1 S2 S1' F : Nat → Prop} {b N L' : Nat} (R1 : BmR h0 bm M S1 h) (R2 : RmR h0 br M S2 h) (d12 : ∀ x, S1 x → ¬ S2 x) (R : ShR h0 b N F h) (d : ∀ x, (S1 x ∨ S2 x) → ¬ F x) (s1 : Step S1 S1' h h')
    (R1' : BmR h0 bm M' S1' h') (k' : M'.Ok L') : RmR h0 br M S2 h' ∧ (∀ {S2' : Nat → Prop} {h'' : Heap}, RmR h0 br M' S2' h'' → Step S2 S2' h' h'' → PairR h0 (some (ptr bm)) (some (ptr br)) L' (fun x => S1' x ∨ S2' x) h'' ∧ ShR h0 b (N + 1) F h'' ∧ (∀ x, (S1' x ∨ S2' x) → ¬ F x) ∧ Step (fun x => (S1 x ∨ S2 x) ∨ F x) (fun x => (S1' x ∨ S2' x) ∨ F x) h h'') := by
  have R2' := R2.ext s1.1 (fun x p q => d12 x q p) (fun x q => R1.fresh q)
  refine ⟨R2', fun {S2' h''} R2'' s2 => ?_⟩
  have d12' : ∀ x, S2 x → ¬ S1' x := s1.off (fun x p q => d12 x q p) fun x p => R2.live p
  have d12'' : ∀ x, S1' x → ¬ S2' x := s2.off (fun x p q => d12' x q p) fun x p => R1'.live p
  have RF := R.ext s1.1 (fun x p q => d x (.inl q) p) (fun x q => R1.fresh q)
  have dF1 : ∀ x, F x → ¬ S1' x := s1.off (fun x p q => d x (.inl q) p) fun x p => R.live p
  have RF2 := RF.ext s2.1 (fun x p q => d x (.inr q) p) (fun x q => R2'.fresh q)
  have dF2 : ∀ x, F x → ¬ S2' x := s2.off (fun x p q => d x (.inr q) p) fun x p => RF.live p
  refine ⟨.ok rfl rfl (R1'.ext s2.1 (fun x p q => d12' x q p) (fun x q => R2'.fresh q)) R2'' d12'' k', RF2.mono (Nat.le_succ _), fun x q f => q.elim (dF1 x f) (dF2 x f), (s1.1.mono fun x q => .inl (.inl q)).trans (s2.1.mono fun x q => .inl (.inr q)), fun x q => ?_⟩
  rcases q with (q | q) | q
  · rcases s1.2 x q with r | r
    · exact .inl (.inl (.inl r))
    · exact .inr r
  · rcases s2.2 x q with r | r
    · exact .inl (.inl (.inr r))
    · exact .inr (s1.1.2 x r)
  · exact .inl (.inr q)

theorem eqQ {e f : Eff} {Q : Bool → Heap → Prop} {h : Heap} (he : e = f) (q : Q true h) : Q (eqK KEf e f) h := by subst he; rw [eqK_refl KEf _ rfl]; exact q
/-- No actor of that number. -/
def OffN (h0 h : Heap) (mo : Option Addr) (L : Nat) (k : Int) : Prop := mo = none ∨ ∃ bm M S1, mo = some (ptr bm) ∧ BmR h0 bm M S1 h ∧ M.Ok L ∧ ¬ (0 ≤ k ∧ k < (M.n : Int))
section
variable {cV : Option Addr → Int → Heap → (Option Addr → Heap → Prop) → Prop} {cN : Int → Int → Int → Heap → (Den KPl → Heap → Prop) → Prop} {cB : Option Addr → AMv → Heap → (Eff → Heap → Prop) → Prop} {cD : Option Addr → Int → AMv → Heap → (Eff → Heap → Prop) → Prop} {cFe : Option Addr → Heap → (Unit → Heap → Prop) → Prop} {cDr : Option Addr → Int → Heap → (Unit → Heap → Prop) → Prop} {cF cG : Option Addr → Int → Heap → (Bool → Heap → Prop) → Prop} {cW : Option Addr → Int → Heap → (Sl → Heap → Prop) → Prop} {cSW : Sl → Sl → Heap → (Bool → Heap → Prop) → Prop} {cK : Option Addr → Sl → Sl → Sl → Heap → (Unit → Heap → Prop) → Prop} {cC : Option Addr → Heap → (Sl → Heap → Prop) → Prop} {cSN : Sl → Sl → Heap → (Bool → Heap → Prop) → Prop} {cL : Option Addr → Heap → (Sl → Heap → Prop) → Prop} {cSL : Sl → Sl → Heap → (Bool → Heap → Prop) → Prop}
  (nM : NilM cV cF cW cC cL) (nF : NilF cFe) (iV : ViewC cV) (iN : RNewC cN) (iB : ByC cB) (iD : RActC cD) (bD : BadDoC cD) (iFe : VFenceC cFe) (iDr : RDrainC cDr) (bDr : BadDrC cDr) (iF : FlushC cF) (iG : RFlushC cG) (bG : BadFlC cG) (iW : WaitC cW) (iSW : SameKC KWt cSW) (iK : KeepC cK) (iC : CellsC cC) (iSN : SameNC cSN) (iL : LogC cL) (iSL : SameKC KAcc cSL)
include nM nF iV iN iB iD bD iFe iDr bDr iF iG bG iW iSW iK iC iSN iL iSL
/-- What the three ways to a move have in common. -/
theorem moved_rest {h0 h : Heap} {mo ro r6 s10 : Option Addr} {L b N : Nat} {S F : Nat → Prop} {x : AMv} {th : Bool} {Q : Bool → Heap → Prop} (P : PairR h0 mo ro L S h) (R : ShR h0 b N F h) (d : ∀ x, S x → ¬ F x) (hL : L ≤ 800000000) (hN : N ≤ 1000000000)
    (hT : (th = false ∧ r6 = none ∧ OffN h0 h mo L x.1 ∧ ∃ br, s10 = some (ptr br) ∧ Bad h br) ∨ (th = true ∧ s10 = ro ∧ ∃ (j bm br : Nat) (M : BM) (S1 S2 : Nat → Prop), x.1 = (j : Int) ∧ j < M.n ∧ r6 = some (vptr bm j) ∧ mo = some (ptr bm) ∧ ro = some (ptr br) ∧ BmR h0 bm M S1 h ∧ RmR h0 br M S2 h ∧ (∀ x, S1 x → ¬ S2 x) ∧ M.Ok L ∧ S = fun x => S1 x ∨ S2 x))
    (hQ : ∀ S' F' h', PairR h0 mo ro (L + 65) S' h' → ShR h0 b (N + 1) F' h' → (∀ x, S' x → ¬ F' x) → Step (fun x => S x ∨ F x) (fun x => S' x ∨ F' x) h h' → Q true h') : law21_moved.j4 cB cD cFe cDr cF cG cW cSW cK cC cSN cL cSL mo ro x (some (ptr b)) Q r6 (th, ()) (s10, ()) h := by
  obtain ⟨x0, xk, xa, xA, xB, xu⟩ := x
  change Int at x0 xk xa xA xB
  have stay : Q true h := hQ S F h (P.mono (by omega)) (R.mono (Nat.le_succ _)) d (Step.refl _ _)
  -- an act
  have acts : 0 ≤ xk ∧ xk ≤ 4 → law21_moved.j3 cB cD cFe cDr cF cG cW cSW cK cC cSN cL cSL mo ro (x0, (xk, (xa, (xA, (xB, xu))))) (some (ptr b)) Q r6 (th, ()) (s10, ()) (true, ()) h := by
    intro hk
    refine ⟨fun _ => ?_, fun e => (by cases e)⟩
    rcases hT with ⟨rfl, rfl, off, br, rfl, B⟩ | ⟨rfl, rfl, j, bm, br, M, S1, S2, hj, hjn, rfl, rfl, rfl, R1, R2, d12, ok, rfl⟩
    · refine iB.1 hk (bD B hk ?_)
      exact eqQ rfl stay
    · have hj : x0 = (j : Int) := hj
      subst hj
      refine iB.2 R1 ok (by omega) hjn hk fun S1' h1 R1' s1 => ?_
      have ok' : (M.act j (((j : Int), (xk, (xa, (xA, (xB, xu))))) : AMv)).1.Ok (L + 65) := (BM.act_ok ok hjn _).mono (by omega)
      refine iD (pair_on R1 R2 d12 R d s1 R1' ok').1 ok (by omega) hjn fun S2' h2 R2' s2 => ?_
      obtain ⟨p1, p2, p3, p4⟩ := (pair_on R1 R2 d12 R d s1 R1' ok').2 R2' s2
      have := hQ _ _ h2 p1 p2 p3 p4
      exact eqQ rfl this
  have rest : ¬ (0 ≤ xk ∧ xk ≤ 4) → law21_moved.j3 cB cD cFe cDr cF cG cW cSW cK cC cSN cL cSL mo ro (x0, (xk, (xa, (xA, (xB, xu))))) (some (ptr b)) Q r6 (th, ()) (s10, ()) (false, ()) h := by
    intro hk
    refine ⟨fun e => (by cases e), fun _ => ⟨fun e5 => ?_, fun e5 => ⟨fun e6 => ?_, fun e6 => ⟨fun e7 => ?_, fun e7 => ⟨fun e8 => ?_, fun e8 => ⟨fun e9 => ?_, fun e9 => stay⟩⟩⟩⟩⟩⟩
    · -- fence
      rcases hT with ⟨rfl, rfl, off, br, rfl, B⟩ | ⟨rfl, rfl, j, bm, br, M, S1, S2, hj, hjn, rfl, rfl, rfl, R1, R2, d12, ok, rfl⟩
      · exact nF (bDr B stay)
      · have hj : x0 = (j : Int) := hj
        subst hj
        refine iFe R1 ok (by omega) hjn fun S1' h1 R1' s1 => ?_
        have ok' : (M.drain j).Ok (L + 65) := (ok.drain j).mono (by omega)
        refine iDr (pair_on R1 R2 d12 R d s1 R1' ok').1 ok (by omega) hjn fun S2' h2 R2' s2 => ?_
        obtain ⟨p1, p2, p3, p4⟩ := (pair_on R1 R2 d12 R d s1 R1' ok').2 R2' s2
        exact hQ _ _ h2 p1 p2 p3 p4
    · -- flush
      cases P with
      | @ok bm br M S1 S2 _ e1 e2 R1 R2 d12 ok =>
        subst e1; subst e2
        refine iF R1 ok (by omega) (fun hn => iG R2 ok (by omega) (fun _ => stay) fun i _ _ hi hin => absurd ⟨by omega, by omega⟩ hn) fun j S1' h1 hj hjn R1' s1 => ?_
        have ok' : (M.flush j).Ok (L + 65) := (ok.flush j).mono (by omega)
        refine iG (pair_on R1 R2 d12 R d s1 R1' ok').1 ok (by omega) (fun hn => absurd ⟨by omega, by omega⟩ hn) fun i S2' h2 hi hin R2' s2 => ?_
        obtain rfl : i = j := by omega
        obtain ⟨p1, p2, p3, p4⟩ := (pair_on R1 R2 d12 R d s1 R1' ok').2 R2' s2
        have := hQ _ _ h2 p1 p2 p3 p4
        have hb : ((!(M.q i).isEmpty) == decide (M.q i ≠ [])) = true := by cases M.q i <;> rfl
        rw [hb]; exact this
      | bad e1 e2 o1 o2 n1 n2 l =>
        subst e1; subst e2
        exact nM.f (bG ⟨_, o1, o2⟩ stay)
    · -- waiting
      have put : ∀ {s t : Sl} {xs : List Wait} {h1 : Heap}, New h h1 KWt s xs → xs.length ≤ 1000000000 → Arr h1 KWt t xs → law21_moved.j2 cSW cK (some (ptr b)) Q s (t, ()) h1 := by
        intro s t xs h1 n1 hx a
        refine iSW n1.arr a hx (keep_one iK P R d hN n1 (New.none n1.le ki) (New.none n1.le KAcc) hx (by decide) (by decide) (fun x q => ⟨no_blk, no_blk⟩) (fun x q => no_blk) fun F' h' P' R' d' s' => ?_)
        exact hQ _ _ h' (P'.mono (by omega)) R' d' s'
      rcases hT with ⟨rfl, rfl, off, br, rfl, B⟩ | ⟨rfl, rfl, j, bm, br, M, S1, S2, hj, hjn, rfl, rfl, rfl, R1, R2, d12, ok, rfl⟩
      · have here : law21_moved.j2 cSW cK (some (ptr b)) Q ⟨none, 0, 0⟩ (⟨none, 0, 0⟩, ()) h := put (New.none (Go.Mx.le.refl _) KWt) (by decide) (New.none (Go.Mx.le.refl h) KWt).arr
        rcases off with rfl | ⟨bm, M, S1, rfl, R1, ok, hn⟩
        · exact nM.w ⟨fun e => (by cases e), fun _ => here⟩
        · exact iW R1 ok (fun _ => ⟨fun e => (by cases e), fun _ => here⟩) fun j s h' hj hjn _ => absurd ⟨by omega, by omega⟩ hn
      · have hj : x0 = (j : Int) := hj
        subst hj
        refine iW R1 ok (fun hn => absurd ⟨by omega, by omega⟩ hn) fun i s h1 hi hin n1 => ⟨fun _ => ?_, fun e => (by cases e)⟩
        obtain rfl : i = j := by omega
        refine deref_some ((R2.more n1.le).ldQ fun qs els no ne hl => ?_)
        have hb : 0 ≤ ((i : Nat) : Int) ∧ ((i : Nat) : Int) < (qs.len : Int) := ⟨by omega, by omega⟩
        refine ⟨hb, ?_⟩
        have hr := range_get M.q hin
        have hel : i < els.length := by have := no.len; omega
        refine no.arr.at (i := (i : Int)) hb.1 hb.2 rfl fun sl hsl => ?_
        rw [Int.toNat_natCast] at hsl
        exact put n1 (by have := ok.ql i; have := ok.r64; omega) (ne.row i sl _ hsl hr).arr
    · -- cells
      have put : ∀ {s t : Sl} {xs : List Int} {h1 : Heap}, New h h1 ki s xs → xs.length ≤ 1000000000 → Arr h1 ki t xs → cSN s t h1 fun r h2 => cK (some (ptr b)) ⟨none, 0, 0⟩ s ⟨none, 0, 0⟩ h2 fun _ h3 => Q r h3 := by
        intro s t xs h1 n1 hx a
        refine iSN n1.arr a hx (keep_one iK P R d hN (New.none n1.le KWt) n1 (New.none n1.le KAcc) (by decide) hx (by decide) (fun x q => (no_blk q).elim) (fun x q => no_blk) fun F' h' P' R' d' s' => ?_)
        exact hQ _ _ h' (P'.mono (by omega)) R' d' s'
      cases P with
      | @ok bm br M S1 S2 _ e1 e2 R1 R2 d12 ok =>
        subst e1; subst e2
        exact iC R1 ok (by omega) fun s h1 n1 => deref_some ((R2.more n1.le).ldH fun t a => put n1 (by have := ok.cs; have := ok.sz; omega) a)
      | bad e1 e2 o1 o2 n1 n2 l =>
        subst e1; subst e2
        refine nM.c (deref_some ((Bad.ldA ⟨_, o1, o2⟩) fun ba o => deref_some (badA1 o (put (New.none (Go.Mx.le.refl _) ki) (by decide) (New.none (Go.Mx.le.refl h) ki).arr))))
    · -- log
      have put : ∀ {s t : Sl} {xs : List Acc} {h1 : Heap}, New h h1 KAcc s xs → xs.length ≤ 1000000000 → Arr h1 KAcc t xs → cSL s t h1 fun r h2 => cK (some (ptr b)) ⟨none, 0, 0⟩ ⟨none, 0, 0⟩ s h2 fun _ h3 => Q r h3 := by
        intro s t xs h1 n1 hx a
        refine iSL n1.arr a hx (keep_one iK P R d hN (New.none n1.le KWt) (New.none n1.le ki) n1 (by decide) (by decide) hx (fun x q => (no_blk q).elim) (fun x q => (no_blk q).elim) fun F' h' P' R' d' s' => ?_)
        exact hQ _ _ h' (P'.mono (by omega)) R' d' s'
      cases P with
      | @ok bm br M S1 S2 _ e1 e2 R1 R2 d12 ok =>
        subst e1; subst e2
        exact iL R1 ok (by omega) fun s h1 n1 => deref_some ((R2.more n1.le).ldB fun t a => put n1 (by have := ok.lg; omega) a)
      | bad e1 e2 o1 o2 n1 n2 l =>
        subst e1; subst e2
        refine nM.l (deref_some ((Bad.ldA ⟨_, o1, o2⟩) fun ba o => deref_some (badA4 o (put (New.none (Go.Mx.le.refl _) KAcc) (by decide) (New.none (Go.Mx.le.refl h) KAcc).arr))))
  refine ⟨fun e => ?_, fun e0 => ⟨fun e => ?_, fun e1 => ⟨fun e => ?_, fun e2 => ⟨fun e => ?_, fun e3 => ?_⟩⟩⟩⟩
  · show law21_moved.j3 _ _ _ _ _ _ _ _ _ _ _ _ _ _ _ _ _ _ _ _ _ (decide (xk = 0), ()) h
    rw [show decide (xk = 0) = true from e]
    have e : xk = 0 := of_decide_eq_true e
    exact acts ⟨by omega, by omega⟩
  · show law21_moved.j3 _ _ _ _ _ _ _ _ _ _ _ _ _ _ _ _ _ _ _ _ _ (decide (xk = 1), ()) h
    rw [show decide (xk = 1) = true from e]
    have e : xk = 1 := of_decide_eq_true e
    exact acts ⟨by omega, by omega⟩
  · show law21_moved.j3 _ _ _ _ _ _ _ _ _ _ _ _ _ _ _ _ _ _ _ _ _ (decide (xk = 2), ()) h
    rw [show decide (xk = 2) = true from e]
    have e : xk = 2 := of_decide_eq_true e
    exact acts ⟨by omega, by omega⟩
  · show law21_moved.j3 _ _ _ _ _ _ _ _ _ _ _ _ _ _ _ _ _ _ _ _ _ (decide (xk = 3), ()) h
    rw [show decide (xk = 3) = true from e]
    have e : xk = 3 := of_decide_eq_true e
    exact acts ⟨by omega, by omega⟩
  · show law21_moved.j3 _ _ _ _ _ _ _ _ _ _ _ _ _ _ _ _ _ _ _ _ _ (decide (xk = 4), ()) h
    have e0 : ¬ xk = 0 := of_decide_eq_false e0
    have e1 : ¬ xk = 1 := of_decide_eq_false e1
    have e2 : ¬ xk = 2 := of_decide_eq_false e2
    have e3 : ¬ xk = 3 := of_decide_eq_false e3
    by_cases e4 : xk = 4
    · rw [decide_eq_true e4]; exact acts ⟨by omega, by omega⟩
    · rw [decide_eq_false e4]; exact rest (by omega)
theorem moved_spec : MovedC (law21_moved.M cV cN cB cD cFe cDr cF cG cW cSW cK cC cSN cL cSL) := by
  intro h0 h mo ro L b N S F x Q P R d hL hN hQ
  have away : ∀ {r6 : Option Addr}, r6 = none → OffN h0 h mo L x.1 → law21_moved.j5 cN cB cD cFe cDr cF cG cW cSW cK cC cSN cL cSL mo ro x (some (ptr b)) Q r6 (false, ()) h := by
    rintro r6 rfl hn
    refine ⟨fun e => (by cases e), fun _ => ⟨fun _ => ?_, fun e => (by cases e)⟩⟩
    refine iN (fun _ bm2 ba2 h1 l1 n1 n2 o1 o2 => ?_) fun n rm e1 e2 e3 e4 => absurd e4.1 (by omega)
    have P1 := P.ext (T := fun _ => False) l1.toExt (fun _ _ => id) (fun _ q => q.elim)
    have R1 := R.ext (S := fun _ => False) l1.toExt (fun _ _ => id) (fun _ q => q.elim)
    have hn1 : OffN h0 h1 mo L x.1 := hn.elim .inl fun ⟨bm, M, S1, e, r, ok, q⟩ => .inr ⟨bm, M, S1, e, r.more l1, ok, q⟩
    exact moved_rest nM nF iV iN iB iD bD iFe iDr bDr iF iG bG iW iSW iK iC iSN iL iSL P1 R1 d hL hN (.inl ⟨rfl, rfl, hn1, bm2, rfl, ba2, o1, o2⟩) fun S' F' h' p1 p2 p3 p4 => hQ S' F' h' p1 p2 p3 ((le_nil l1 (S := fun x => S x ∨ F x)).trans p4)
  obtain ⟨x0, xr⟩ := x
  change Int at x0
  have P0 := P
  cases P with
  | @ok bm br M S1 S2 _ e1 e2 R1 R2 d12 ok =>
    subst e1; subst e2
    have h8 := ok.n8
    refine iV R1 h8 (fun hn => ?_) fun j hj hjn => ?_
    · have off : OffN h0 h (some (ptr bm)) L x0 := .inr ⟨bm, M, S1, rfl, R1, ok, hn⟩
      refine ⟨fun e => ?_, fun _ => away rfl off⟩
      refine deref_some (R2.ldQ fun qs els no ne hl => ?_)
      have e : (0 : Int) ≤ x0 := of_decide_eq_true e
      have hn : ¬ (0 ≤ x0 ∧ x0 < (M.n : Int)) := hn
      show law21_moved.j5 _ _ _ _ _ _ _ _ _ _ _ _ _ _ _ _ _ _ _ _ (decide (x0 < (qs.len : Int)), ()) h
      rw [decide_eq_false (by omega)]
      exact away rfl off
    · have hj : x0 = (j : Int) := hj
      subst hj
      refine ⟨fun e => ?_, fun e => absurd (Int.natCast_nonneg j) (of_decide_eq_false e)⟩
      refine deref_some (R2.ldQ fun qs els no ne hl => ?_)
      show law21_moved.j5 _ _ _ _ _ _ _ _ _ _ _ _ _ _ _ _ _ _ _ _ (decide ((j : Int) < (qs.len : Int)), ()) h
      rw [decide_eq_true (by omega)]
      refine ⟨fun e => (by cases e), fun _ => ⟨fun e => (by cases e), fun _ => ?_⟩⟩
      exact moved_rest nM nF iV iN iB iD bD iFe iDr bDr iF iG bG iW iSW iK iC iSN iL iSL P0 R d hL hN (.inr ⟨rfl, rfl, j, bm, br, M, S1, S2, rfl, hjn, rfl, rfl, rfl, R1, R2, d12, ok, rfl⟩) hQ
  | bad e1 e2 o1 o2 n1 n2 l =>
    subst e1; subst e2
    refine nM.v ⟨fun e => ?_, fun _ => away rfl (.inl rfl)⟩
    refine deref_some (Bad.ld2 ⟨_, o1, o2⟩ ?_)
    have e : (0 : Int) ≤ x0 := of_decide_eq_true e
    show law21_moved.j5 _ _ _ _ _ _ _ _ _ _ _ _ _ _ _ _ _ _ _ _ (decide (x0 < ((0 : Nat) : Int)), ()) h
    rw [decide_eq_false (by omega)]
    exact away rfl (.inl rfl)
end

end Go.Mx
