/-
  A view's calls.
-/
import Derived.Test.YtppehoailhjdfabMxBc
set_option linter.unusedVariables false
set_option linter.unusedSimpArgs false
set_option linter.unusedSectionVars false
namespace Go.Mx

def ACellsC (k : Kd) (c : Option Addr → Heap → (Sl → Heap → Prop) → Prop) (f : List Int → List Acc → List (Den k)) : Prop := ∀ {h0 h : Heap} {b : Nat} {cl l : Sl} {sz : Int} {cs : List Int} {lg : List Acc} {who : Int} {wt : Bool} {Q : Sl → Heap → Prop}, Ar h0 h b cl l sz cs lg who wt → cs.length ≤ 1048576 → lg.length ≤ 1000000000 →
  (∀ s h', New h h' k s (f cs lg) → Q s h') → c (some (ptr b)) h Q
def CellsC (c : Option Addr → Heap → (Sl → Heap → Prop) → Prop) : Prop := ∀ {h0 h : Heap} {bm : Nat} {M : BM} {S : Nat → Prop} {L : Nat} {Q : Sl → Heap → Prop}, BmR h0 bm M S h → M.Ok L → L ≤ 1000000000 → (∀ s h', New h h' ki s M.cs → Q s h') → c (some (ptr bm)) h Q
def LogC (c : Option Addr → Heap → (Sl → Heap → Prop) → Prop) : Prop := ∀ {h0 h : Heap} {bm : Nat} {M : BM} {S : Nat → Prop} {L : Nat} {Q : Sl → Heap → Prop}, BmR h0 bm M S h → M.Ok L → L ≤ 1000000000 → (∀ s h', New h h' KAcc s M.lg → Q s h') → c (some (ptr bm)) h Q
theorem bcells_spec {c1} (i1 : ACellsC ki c1 fun cs _ => cs) : CellsC (buffers_Memory_Cells.M c1) := by
  rintro h0 h bm M S L Q ⟨ba, c, l, who, qs, rfl, o⟩ ok hL hQ
  refine ⟨fun e => (by cases e), fun _ => o.ldA (i1 o.ar ?_ (Nat.le_trans ok.lg hL) hQ)⟩
  have := ok.cs; have := ok.sz; omega
theorem blog_spec {c1} (i1 : ACellsC KAcc c1 fun _ lg => lg) : LogC (buffers_Memory_Log.M c1) := by
  rintro h0 h bm M S L Q ⟨ba, c, l, who, qs, rfl, o⟩ ok hL hQ
  refine ⟨fun e => (by cases e), fun _ => o.ldA (i1 o.ar ?_ (Nat.le_trans ok.lg hL) hQ)⟩
  have := ok.cs; have := ok.sz; omega

def VNoneC (c : Option Addr → Int → Heap → (Bool → Heap → Prop) → Prop) : Prop := ∀ {h0 h : Heap} {bm : Nat} {M : BM} {S : Nat → Prop} {k : Nat} {a : Int} {Q : Bool → Heap → Prop}, BmR h0 bm M S h → M.n ≤ 8 → k < M.n → (¬ M.In a → Q true h) → (M.In a → Q false h) → c (some (vptr bm k)) a h Q
theorem vnone_spec {cm} (iM : NumC (fun _ n => n) cm) : VNoneC (buffers_View_none.M cm) := by
  rintro h0 h bm M S k a Q ⟨ba, c, l, who, qs, rfl, o⟩ h8 hk hT hF
  refine ⟨fun e => (by cases e), fun _ => o.ldV hk h8 ⟨fun e => (by cases e), fun _ => ⟨fun e => hT fun q => ?_, fun e => o.ldV hk h8 (o.ldA (iM o.ar ?_))⟩⟩⟩
  · have e : a < 0 := of_decide_eq_true e
    have := q.1; omega
  · have e : ¬ a < 0 := of_decide_eq_false e
    by_cases q : M.In a
    · rw [decide_eq_false (by have := q.2; show ¬ ((M.cs.length : Int) ≤ a); omega)]; exact hF q
    · rw [decide_eq_true (by unfold BM.In at q; show (M.cs.length : Int) ≤ a; omega)]; exact hT q
def PlC (c : Den KPl → Heap → (Option Addr → Heap → Prop) → Prop) : Prop := ∀ {h0 h : Heap} {bm ba : Nat} {cl l : Sl} {who : Int} {qs : Fin 8 → Sl} {M : BM} {k : Int} {Q : Option Addr → Heap → Prop}, BmS h0 h bm ba cl l who qs M →
  (∀ h', BmS h0 h' bm ba cl l k qs M → Step (fpB bm ba cl l qs) (fpB bm ba cl l qs) h h' → Q (some (ptr ba)) h') → c (some (ptr bm), (k, ())) h Q
theorem place_spec {cw} (iW : WhoC cw) : PlC (buffers_place_cells.M cw) := by
  intro h0 h bm ba cl l who qs M k Q o hQ
  refine o.ldA (iW o.ar fun h1 a1 s1 => ?_)
  obtain ⟨o1, t1⟩ := o.arena (M' := M) a1 s1 rfl rfl rfl
  exact o1.ldA (hQ h1 o1 t1)
theorem BM.at_of {M : BM} {a v : Int} (h : M.cs[a.toNat]? = some v) : M.at' a = v := by unfold BM.at'; rw [h]; rfl

def VLoadC (c : Option Addr → Int → Heap → (Den K2 → Heap → Prop) → Prop) : Prop := ∀ {h0 h : Heap} {bm : Nat} {M : BM} {S : Nat → Prop} {L k : Nat} {a : Int} {Q : Den K2 → Heap → Prop}, BmR h0 bm M S h → M.Ok L → L ≤ 900000000 → k < M.n →
  (∀ S' h', BmR h0 bm (M.load k a).1 S' h' → Step S S' h h' → Q ((M.load k a).2.1, ((M.load k a).2.2, ())) h') → c (some (vptr bm k)) a h Q
theorem vload_spec {cn cp cl} (iN : VNoneC cn) (iP : PlC cp) (iL : LoadC cl) : VLoadC (buffers_View_Load.M cn cp cl) := by
  intro h0 h bm M S L k a Q R ok hL hk hQ
  have h8 := ok.n8
  refine iN R h8 hk (fun q => ⟨fun _ => ?_, fun e => (by cases e)⟩) (fun q => ⟨fun e => (by cases e), fun _ => ?_⟩)
  · have : M.load k a = (M, (0, 20)) := if_neg q
    rw [this] at hQ
    exact hQ S h R (.refl _ _)
  · obtain ⟨ba, c, l, who, qs, rfl, o⟩ := R
    have hk8 : k < 8 := by omega
    have hk' : 0 ≤ (k : Int) ∧ (k : Int) < 8 := ⟨by omega, by omega⟩
    refine o.ldV hk h8 (o.ldK hk h8 ⟨hk', o.ldQ hk8 ?_⟩)
    have tl := o.q ⟨k, hk8⟩
    dsimp only at tl
    have hlen := tl.len
    have hql := ok.ql k
    have h64 := ok.r64
    have hw0 : w64 (((qs ⟨k, hk8⟩).len : Int) - 1) = ((M.q k).length : Int) - 1 := by
      have e : ((qs ⟨k, hk8⟩).len : Int) = ((M.q k).length : Int) := by rw [← hlen]
      rw [e, w64_of (by omega) (by omega)]
    rw [hw0]
    refine Loop.idxB (M.q k).length (fun n s g => s.1 = ((M.q k).length : Int) - 1 - n ∧ g = h ∧ (M.q k).reverse.find? (fun w => decide (w.1 = a)) = ((M.q k).reverse.drop n).find? (fun w => decide (w.1 = a))) ⟨by simp, rfl, rfl⟩ ?_
    rintro n ⟨i, u⟩ g go hn ⟨hi, rfl, hf⟩ hgo
    dsimp only at hi
    refine ⟨fun e => ?_, fun e => ?_⟩
    · have e : (0 : Int) ≤ i := of_decide_eq_true e
      have hlt : n < (M.q k).length := by omega
      refine ⟨⟨e, by dsimp only; omega⟩, tl.arr.part e (by omega) (f := fun w : Wait => (w.1 : Int)) (kp := ki) (off := 0) rfl (fun x => ⟨[], _, rfl, rfl⟩) fun x hx => ?_⟩
      have hrev : (M.q k).reverse.drop n = x :: (M.q k).reverse.drop (n + 1) := by
        have h1 : n < (M.q k).reverse.length := by rw [List.length_reverse]; exact hlt
        rw [List.drop_eq_getElem_cons h1]
        congr 1
        rw [List.getElem_reverse]
        have : i.toNat = (M.q k).length - 1 - n := by omega
        rw [this] at hx
        exact (List.getElem?_eq_some_iff.1 hx).2
      rw [hrev, List.find?_cons] at hf
      refine ⟨fun d => ?_, fun d => ?_⟩
      · have d' : x.1 = a := of_decide_eq_true d
        refine ⟨⟨e, by dsimp only; omega⟩, tl.arr.part e (by omega) (f := fun w : Wait => (w.2.1 : Int)) (kp := ki) (off := 1) rfl (fun x => ⟨[_], [], rfl, rfl⟩) fun y hy => ?_⟩
        rw [hx] at hy; cases hy
        rw [decide_eq_true d'] at hf
        have : M.load k a = (M, (x.2.1, 0)) := by
          unfold BM.load seenW
          rw [if_pos q, hf]; rfl
        rw [this] at hQ
        exact hQ _ g ⟨_, _, _, _, _, rfl, o⟩ (.refl _ _)
      · rw [show decide (x.1 = a) = false from d] at hf
        exact hgo hlt _ _ ⟨by show w64 (i - 1) = _; rw [w64_of] <;> omega, rfl, hf⟩
    · have e : ¬ (0 : Int) ≤ i := of_decide_eq_false e
      rw [List.drop_of_length_le (by rw [List.length_reverse]; omega)] at hf
      refine o.ldP hk h8 (iP o fun h1 o1 s1 => iL o1.ar (Nat.le_trans ok.lg (by omega)) q fun v l' h2 hv a2 s2 => ?_)
      have : M.load k a = (M.log ((k : Int), (0, (a, (v, (0, (true, ())))))), (v, 0)) := by
        unfold BM.load seenW
        rw [if_pos q, hf, BM.at_of hv]; rfl
      rw [this] at hQ
      obtain ⟨o2, t2⟩ := o1.arena (M' := M.log ((k : Int), (0, (a, (v, (0, (true, ()))))))) a2 s2 rfl rfl rfl
      exact hQ _ h2 ⟨_, _, _, _, _, rfl, o2⟩ (s1.trans t2)

def VStoreC (c : Option Addr → Int → Int → Heap → (Int → Heap → Prop) → Prop) : Prop := ∀ {h0 h : Heap} {bm : Nat} {M : BM} {S : Nat → Prop} {L k : Nat} {a v : Int} {Q : Int → Heap → Prop}, BmR h0 bm M S h → M.Ok L → L ≤ 900000000 → k < M.n →
  (∀ S' h', BmR h0 bm (M.store k a v).1 S' h' → Step S S' h h' → Q (M.store k a v).2 h') → c (some (vptr bm k)) a v h Q
theorem vstore_spec {cn cf} (iN : VNoneC cn) (iF : FlushC cf) : VStoreC (buffers_View_Store.M cn cf) := by
  intro h0 h bm M S L k a v Q R ok hL hk hQ
  have h8 := ok.n8
  refine iN R h8 hk (fun q => ⟨fun _ => ?_, fun e => (by cases e)⟩) (fun q => ⟨fun e => (by cases e), fun _ => ?_⟩)
  · have : M.store k a v = (M, 20) := if_neg q
    rw [this] at hQ
    exact hQ S h R (.refl _ _)
  · have hk8 : k < 8 := by omega
    have hk' : 0 ≤ (k : Int) ∧ (k : Int) < 8 := ⟨by omega, by omega⟩
    have hql := ok.ql k
    have h64 := ok.r64
    have last : ∀ {M1 : BM} {S1 : Nat → Prop} {h1 : Heap}, M1 = (if M.room ≤ (M.q k).length then M.flush k else M) → BmR h0 bm M1 S1 h1 → Step S S1 h h1 → buffers_View_Store.j1 (some (vptr bm k)) a v Q () h1 := by
      rintro M1 S1 h1 e1 ⟨ba, c, l, who, qs, rfl, o⟩ s1
      have hst : M.store k a v = (M1.setq k (M1.q k ++ [(a, (v, ()))]), 0) := by
        unfold BM.store; rw [if_pos q, e1]
      have hn : M1.n = M.n := by rw [e1]; split; exact (M.flush_same k).1; rfl
      have hk1 : k < M1.n := by omega
      have h81 : M1.n ≤ 8 := by omega
      have tl := o.q ⟨k, hk8⟩
      dsimp only at tl
      have hlen := tl.len
      have hl1 : (M1.q k).length ≤ 64 := by
        rw [e1]; split
        · rw [(M.flush_same k).2.2.2.2.2.2, List.length_drop]; omega
        · omega
      refine o.ldV hk1 h81 (o.ldK hk1 h81 (o.ldV hk1 h81 (o.ldK hk1 h81 ⟨hk', o.ldQ hk8 ?_⟩)))
      refine tl.app (x := ((a, (v, ())) : Wait)) rfl rfl (by omega) fun t h2 n2 x2 b2 => ?_
      have ob2 := o.obj.ext x2 (o.dm _)
      refine ⟨ld_sees (vw_ldK ob2 hk1 h81 rfl), ld_sees (vw_ldV ob2 hk1 h81 rfl), hk', o.stQ hk8 x2 n2 b2 fun h3 o3 s3 => ?_⟩
      rw [hst] at hQ
      exact hQ _ h3 ⟨_, _, _, _, _, rfl, o3⟩ (s1.trans s3)
    have R0 := R
    obtain ⟨ba, c, l, who, qs, rfl, o⟩ := R
    have hlen := (o.q ⟨k, hk8⟩).len
    dsimp only at hlen
    refine o.ldV hk h8 (o.ldK hk h8 ⟨hk', o.ldQ hk8 (o.ldV hk h8 (o.ldR ⟨fun e => ?_, fun e => ?_⟩))⟩)
    · have e : (M.room : Int) ≤ ((qs ⟨k, hk8⟩).len : Int) := of_decide_eq_true e
      refine o.ldV hk h8 (o.ldK hk h8 (iF R0 ok (by omega) (fun p => absurd ⟨by omega, by omega⟩ p) fun j S' h' ej hj R' s' => ?_))
      obtain rfl : k = j := by omega
      exact last (by rw [if_pos (by omega)]) R' s'
    · have e : ¬ (M.room : Int) ≤ ((qs ⟨k, hk8⟩).len : Int) := of_decide_eq_false e
      exact last (by rw [if_neg (by omega)]) R0 (.refl _ _)

def VCasC (c : Option Addr → Int → Int → Int → Heap → ((Bool × (Int × Unit)) → Heap → Prop) → Prop) : Prop := ∀ {h0 h : Heap} {bm : Nat} {M : BM} {S : Nat → Prop} {L k : Nat} {a x y : Int} {Q : (Bool × (Int × Unit)) → Heap → Prop}, BmR h0 bm M S h → M.Ok L → L ≤ 900000000 → k < M.n →
  (∀ S' h', BmR h0 bm (M.cas k a x y).1 S' h' → Step S S' h h' → Q ((M.cas k a x y).2.1, ((M.cas k a x y).2.2, ())) h') → c (some (vptr bm k)) a x y h Q
theorem vcas_spec {cn cd cp cc} (iN : VNoneC cn) (iD : DrainC cd) (iP : PlC cp) (iC : CasC cc) : VCasC (buffers_View_CAS.M cn cd cp cc) := by
  intro h0 h bm M S L k a x y Q R ok hL hk hQ
  have h8 := ok.n8
  refine iN R h8 hk (fun q => ⟨fun _ => ?_, fun e => (by cases e)⟩) (fun q => ⟨fun e => (by cases e), fun _ => ?_⟩)
  · have : M.cas k a x y = (M, (false, 20)) := if_neg q
    rw [this] at hQ
    exact hQ S h R (.refl _ _)
  · have R0 := R
    obtain ⟨ba, c, l, who, qs, rfl, o⟩ := R
    refine o.ldV hk h8 (o.ldK hk h8 (iD R0 ok (by omega) hk fun S1 h1 R1 s1 => ?_))
    obtain ⟨ba1, c1, l1, who1, qs1, rfl, o1⟩ := R1
    obtain ⟨e1, e2, e3, e4, e5, e6, e7⟩ := M.drain_same k
    have okd := ok.drain k
    have q1 : (M.drain k).In a := by unfold BM.In at *; rw [e5]; exact q
    refine o1.ldP (by omega) (by omega) (iP o1 fun h2 o2 s2 => iC o2.ar (Nat.le_trans okd.lg (by omega)) q1 fun v l' h3 hv a3 s3 => ?_)
    have : M.cas k a x y = (BM.log { M.drain k with cs := if v = x then (M.drain k).cs.set a.toNat y else (M.drain k).cs } ((k : Int), (2, (a, (x, (y, (decide (v = x), ())))))), (decide (v = x), 0)) := by
      unfold BM.cas
      rw [if_pos q]
      dsimp only
      rw [BM.at_of hv]
    rw [this] at hQ
    obtain ⟨o3, t3⟩ := o2.arena (M' := BM.log { M.drain k with cs := if v = x then (M.drain k).cs.set a.toNat y else (M.drain k).cs } ((k : Int), (2, (a, (x, (y, (decide (v = x), ()))))))) a3 s3 rfl rfl rfl
    exact hQ _ h3 ⟨_, _, _, _, _, rfl, o3⟩ ((s1.trans s2).trans t3)

def VAddC (c : Option Addr → Int → Int → Heap → (Den K2 → Heap → Prop) → Prop) : Prop := ∀ {h0 h : Heap} {bm : Nat} {M : BM} {S : Nat → Prop} {L k : Nat} {a d : Int} {Q : Den K2 → Heap → Prop}, BmR h0 bm M S h → M.Ok L → L ≤ 900000000 → k < M.n →
  (∀ S' h', BmR h0 bm (M.add k a d).1 S' h' → Step S S' h h' → Q ((M.add k a d).2.1, ((M.add k a d).2.2, ())) h') → c (some (vptr bm k)) a d h Q
theorem vadd_spec {cn cd cp cc} (iN : VNoneC cn) (iD : DrainC cd) (iP : PlC cp) (iA : AddC cc) : VAddC (buffers_View_Add.M cn cd cp cc) := by
  intro h0 h bm M S L k a d Q R ok hL hk hQ
  have h8 := ok.n8
  refine iN R h8 hk (fun q => ⟨fun _ => ?_, fun e => (by cases e)⟩) (fun q => ⟨fun e => (by cases e), fun _ => ?_⟩)
  · have : M.add k a d = (M, (0, 20)) := if_neg q
    rw [this] at hQ
    exact hQ S h R (.refl _ _)
  · have R0 := R
    obtain ⟨ba, c, l, who, qs, rfl, o⟩ := R
    refine o.ldV hk h8 (o.ldK hk h8 (iD R0 ok (by omega) hk fun S1 h1 R1 s1 => ?_))
    obtain ⟨ba1, c1, l1, who1, qs1, rfl, o1⟩ := R1
    obtain ⟨e1, e2, e3, e4, e5, e6, e7⟩ := M.drain_same k
    have okd := ok.drain k
    have q1 : (M.drain k).In a := by unfold BM.In at *; rw [e5]; exact q
    refine o1.ldP (by omega) (by omega) (iP o1 fun h2 o2 s2 => iA o2.ar (Nat.le_trans okd.lg (by omega)) q1 fun v l' h3 hv a3 s3 => ?_)
    have : M.add k a d = (BM.log { M.drain k with cs := (M.drain k).cs.set a.toNat (w64 (v + d)) } ((k : Int), (3, (a, (d, (w64 (v + d), (true, ())))))), (w64 (v + d), 0)) := by
      unfold BM.add
      rw [if_pos q]
      dsimp only
      rw [BM.at_of hv]
    rw [this] at hQ
    obtain ⟨o3, t3⟩ := o2.arena (M' := BM.log { M.drain k with cs := (M.drain k).cs.set a.toNat (w64 (v + d)) } ((k : Int), (3, (a, (d, (w64 (v + d), (true, ()))))))) a3 s3 rfl rfl rfl
    exact hQ _ h3 ⟨_, _, _, _, _, rfl, o3⟩ ((s1.trans s2).trans t3)

def VResC (c : Option Addr → Int → Heap → (Den K2 → Heap → Prop) → Prop) : Prop := ∀ {h0 h : Heap} {bm : Nat} {M : BM} {S : Nat → Prop} {L k : Nat} {n : Int} {Q : Den K2 → Heap → Prop}, BmR h0 bm M S h → M.Ok L → L ≤ 900000000 → k < M.n →
  (∀ S' h', BmR h0 bm (M.reserve k n).1 S' h' → Step S S' h h' → Q ((M.reserve k n).2.1, ((M.reserve k n).2.2, ())) h') → c (some (vptr bm k)) n h Q
theorem vres_spec {cs cm cd cp cr} (iS : NumC (fun sz _ => sz) cs) (iM : NumC (fun _ n => n) cm) (iD : DrainC cd) (iP : PlC cp) (iR : ResC cr) : VResC (buffers_View_Reserve.M cs cm cd cp cr) := by
  intro h0 h bm M S L k n Q R ok hL hk hQ
  have h8 := ok.n8
  refine ⟨fun e => ?_, fun e => ⟨fun e => (by cases e), fun _ => ?_⟩⟩
  · have e : n < 1 := of_decide_eq_true e
    have : M.reserve k n = (M, (0, 21)) := if_pos e
    rw [this] at hQ
    exact hQ S h R (.refl _ _)
  · have e : ¬ n < 1 := of_decide_eq_false e
    have R0 := R
    obtain ⟨ba, c, l, who, qs, rfl, o⟩ := R
    have hc := ok.cs
    have hz := ok.sz
    have hw : w64 (M.sz - (M.cs.length : Int)) = M.sz - (M.cs.length : Int) := by rw [w64_of] <;> omega
    refine o.ldV hk h8 ⟨fun e => (by cases e), fun _ => o.ldV hk h8 (o.ldA (o.ldV hk h8 (o.ldA (iS o.ar ⟨ld_sees (o.ldA rfl), ld_sees (o.ldV hk h8 rfl), iM o.ar ?_⟩))))⟩
    rw [hw]
    refine ⟨fun f => ?_, fun f => ?_⟩
    · have f : M.sz - (M.cs.length : Int) < n := of_decide_eq_true f
      have : M.reserve k n = (M, (0, 22)) := by unfold BM.reserve; rw [if_neg e, if_pos f]
      rw [this] at hQ
      exact hQ _ h R0 (.refl _ _)
    · have f : ¬ M.sz - (M.cs.length : Int) < n := of_decide_eq_false f
      refine o.ldV hk h8 (o.ldK hk h8 (iD R0 ok (by omega) hk fun S1 h1 R1 s1 => ?_))
      obtain ⟨ba1, c1, l1, who1, qs1, rfl, o1⟩ := R1
      obtain ⟨e1, e2, e3, e4, e5, e6, e7⟩ := M.drain_same k
      have okd := ok.drain k
      refine o1.ldP (by omega) (by omega) (iP o1 fun h2 o2 s2 => iR o2.ar (Nat.le_trans okd.lg (by omega)) okd.cs okd.sz (by omega) (by rw [e3, e5]; omega) fun c' l' h3 a3 s3 => ?_)
      have : M.reserve k n = (BM.log { M.drain k with cs := (M.drain k).cs ++ List.replicate n.toNat 0 } ((k : Int), (4, (((M.drain k).cs.length : Int), (n, (0, (true, ())))))), (((M.drain k).cs.length : Int), 0)) := by
        unfold BM.reserve
        rw [if_neg e, if_neg f]
      rw [this] at hQ
      obtain ⟨o3, t3⟩ := o2.arena (M' := BM.log { M.drain k with cs := (M.drain k).cs ++ List.replicate n.toNat 0 } ((k : Int), (4, (((M.drain k).cs.length : Int), (n, (0, (true, ()))))))) a3 s3 rfl rfl rfl
      exact hQ _ h3 ⟨_, _, _, _, _, rfl, o3⟩ ((s1.trans s2).trans t3)

def VFenceC (c : Option Addr → Heap → (Unit → Heap → Prop) → Prop) : Prop := ∀ {h0 h : Heap} {bm : Nat} {M : BM} {S : Nat → Prop} {L k : Nat} {Q : Unit → Heap → Prop}, BmR h0 bm M S h → M.Ok L → L ≤ 900000000 → k < M.n →
  (∀ S' h', BmR h0 bm (M.drain k) S' h' → Step S S' h h' → Q () h') → c (some (vptr bm k)) h Q
theorem vfence_spec {cd} (iD : DrainC cd) : VFenceC (buffers_View_Fence.M cd) := by
  intro h0 h bm M S L k Q R ok hL hk hQ
  have h8 := ok.n8
  have R0 := R
  obtain ⟨ba, c, l, who, qs, rfl, o⟩ := R
  refine ⟨fun _ => o.ldV hk h8 ⟨fun _ => o.ldV hk h8 (o.ldK hk h8 (iD R0 ok (by omega) hk hQ)), fun e => (by cases e)⟩, fun e => (by cases e)⟩

def VActC (c : Option Addr → AMv → Heap → (Eff → Heap → Prop) → Prop) : Prop := ∀ {h0 h : Heap} {bm : Nat} {M : BM} {S : Nat → Prop} {L k : Nat} {t : AMv} {Q : Eff → Heap → Prop}, BmR h0 bm M S h → M.Ok L → L ≤ 900000000 → k < M.n →
  (∀ S' h', BmR h0 bm (M.act k t).1 S' h' → Step S S' h h' → Q (M.act k t).2 h') → c (some (vptr bm k)) t h Q

end Go.Mx
