/-
  The reference's memory (plunderref21).
-/
import Derived.Test.YtppehoailhjdfabMxVa
import Derived.Test.YtppehoailhjdfabMxNe
set_option linter.unusedVariables false
set_option linter.unusedSimpArgs false
set_option linter.unusedSectionVars false
namespace Go.Mx

theorem deref_some {a : Addr} {K : Addr → Prop} (h : K a) : deref (some a) K := h
abbrev KRM : Kd := .pair .ptr (.pair ki (.pair .sl .nil))
structure RmS (h0 h : Heap) (bm ba : Nat) (c l qs : Sl) (els : List Sl) (who : Int) (M : BM) : Prop where
  obj : Obj h bm KRM (some (ptr ba), ((M.room : Int), (qs, ())))
  ar : RaS h0 h ba c l M.sz M.cs M.lg who
  wt : M.wt = true
  q : Nest h0 h KWt qs els ((List.range M.n).map M.q)
  nb : h0 bm = none
  d : ¬ fpA ba c l bm
  dm : ¬ fpN qs els bm
  dq : ∀ x, fpN qs els x → ¬ fpA ba c l x
def fpR (bm ba : Nat) (c l qs : Sl) (els : List Sl) : Nat → Prop := fun x => x = bm ∨ fpA ba c l x ∨ fpN qs els x
section
variable {h0 h : Heap} {bm ba : Nat} {c l qs : Sl} {els : List Sl} {who : Int} {M : BM} (o : RmS h0 h bm ba c l qs els who M)
include o
theorem RmS.le : Go.Mx.le h0 h := o.ar.le
theorem RmS.live {x : Nat} (hx : fpR bm ba c l qs els x) : h x ≠ none := by
  rcases hx with rfl | hx | hx
  · exact o.obj.live
  · exact o.ar.live hx
  · exact o.q.live hx
theorem RmS.fresh {x : Nat} (hx : fpR bm ba c l qs els x) : h0 x = none := by
  rcases hx with rfl | hx | hx
  · exact o.nb
  · exact o.ar.fresh hx
  · exact o.q.fresh hx
theorem RmS.ext {h' : Heap} {S : Nat → Prop} (e : Ext S h h') (n : ∀ x, fpR bm ba c l qs els x → ¬ S x) (f : ∀ x, S x → h0 x = none) : RmS h0 h' bm ba c l qs els who M :=
  ⟨o.obj.ext e (n bm (.inl rfl)), o.ar.ext e (fun x hx => n x (.inr (.inl hx))) f, o.wt, o.q.ext e (fun x hx => n x (.inr (.inr hx))) f, o.nb, o.d, o.dm, o.dq⟩
theorem RmS.more {h' : Heap} (e : Go.Mx.le h h') : RmS h0 h' bm ba c l qs els who M :=
  ⟨o.obj.le e, o.ar.more e, o.wt, o.q.more e, o.nb, o.d, o.dm, o.dq⟩
theorem RmS.base {h1 : Heap} (e : Go.Mx.le h1 h0) : RmS h1 h bm ba c l qs els who M :=
  ⟨o.obj, o.ar.base e, o.wt, o.q.base e, e.none o.nb, o.d, o.dm, o.dq⟩
theorem RmS.ld0 {K : Option Addr → Prop} (hK : K (some (ptr ba))) : ld .ptr h ((ptr bm).add 0) K := o.obj.ld (kf := .ptr) (y := some (ptr ba)) ⟨[], _, rfl, rfl⟩ hK
theorem RmS.ld1 {K : Int → Prop} (hK : K (M.room : Int)) : ld ki h ((ptr bm).add 1) K := o.obj.ld (kf := ki) (y := (M.room : Int)) ⟨[_], _, rfl, rfl⟩ hK
theorem RmS.ld2 {K : Sl → Prop} (hK : K qs) : ld .sl h ((ptr bm).add 2) K := o.obj.ld (kf := .sl) (y := qs) ⟨[_, _], _, rfl, rfl⟩ hK
theorem RmS.see2 : sees h (some ((ptr bm).add 2)) .sl qs := o.obj.sees (kf := .sl) (y := qs) ⟨[_, _], _, rfl, rfl⟩
/-- The arena did something. -/
theorem RmS.arena {h' : Heap} {c' l' : Sl} {who' : Int} {M' : BM} (a : RaS h0 h' ba c' l' M'.sz M'.cs M'.lg who') (s : Step (fpA ba c l) (fpA ba c' l') h h') (e1 : M'.n = M.n) (e2 : M'.room = M.room) (e3 : M'.q = M.q) (e4 : M'.wt = true) :
    RmS h0 h' bm ba c' l' qs els who' M' ∧ Step (fpR bm ba c l qs els) (fpR bm ba c' l' qs els) h h' := by
  have off : ∀ x, fpN qs els x → ¬ fpA ba c' l' x := s.off (fun x p q => o.dq x p q) (fun x p => o.q.live p)
  have obm : ¬ fpA ba c' l' bm := s.off (T := fun x => x = bm) (fun x p q => o.d (p ▸ q)) (fun x p => p ▸ o.obj.live) bm rfl
  refine ⟨⟨?_, a, e4, ?_, o.nb, obm, o.dm, off⟩, s.1.mono (fun x q => .inr (.inl q)), fun x q => ?_⟩
  · rw [e2]; exact o.obj.ext s.1 o.d
  · rw [e1, e3]; exact o.q.ext s.1 (fun x p q => o.dq x p q) (fun x q => o.ar.fresh q)
  · rcases q with q | q | q
    · exact .inl (.inl q)
    · rcases s.2 x q with c | c
      · exact .inl (.inr (.inl c))
      · exact .inr c
    · exact .inl (.inr (.inr q))
/-- A queue was put in its place. -/
theorem RmS.queue {h' : Heap} {els' : List Sl} {M' : BM} (n : Nest h0 h' KWt qs els' ((List.range M'.n).map M'.q)) (s : Step (fpN qs els) (fpN qs els') h h') (e2 : M'.room = M.room) (e3 : M'.sz = M.sz) (e4 : M'.cs = M.cs) (e5 : M'.lg = M.lg) (e6 : M'.wt = M.wt) :
    RmS h0 h' bm ba c l qs els' who M' ∧ Step (fpR bm ba c l qs els) (fpR bm ba c l qs els') h h' := by
  have off : ∀ x, fpA ba c l x → ¬ fpN qs els' x := s.off (fun x p q => o.dq x q p) (fun x p => o.ar.live p)
  have obm : ¬ fpN qs els' bm := s.off (T := fun x => x = bm) (fun x p q => o.dm (p ▸ q)) (fun x p => p ▸ o.obj.live) bm rfl
  refine ⟨⟨?_, ?_, e6.trans o.wt, n, o.nb, o.d, obm, fun x p q => off x q p⟩, s.1.mono (fun x q => .inr (.inr q)), fun x q => ?_⟩
  · rw [e2]; exact o.obj.ext s.1 o.dm
  · rw [e3, e4, e5]; exact o.ar.ext s.1 (fun x p q => o.dq x q p) (fun x q => o.q.fresh q)
  · rcases q with q | q | q
    · exact .inl (.inl q)
    · exact .inl (.inr (.inl q))
    · rcases s.2 x q with c | c
      · exact .inl (.inr (.inr c))
      · exact .inr c
end
def RmR (h0 : Heap) (bm : Nat) (M : BM) (S : Nat → Prop) (h : Heap) : Prop := ∃ ba c l qs els who, S = fpR bm ba c l qs els ∧ RmS h0 h bm ba c l qs els who M
theorem RmR.le {h0 bm M S h} (R : RmR h0 bm M S h) : Go.Mx.le h0 h := by obtain ⟨_, _, _, _, _, _, _, o⟩ := R; exact o.le
theorem RmR.live {h0 bm M S h} (R : RmR h0 bm M S h) {x : Nat} (hx : S x) : h x ≠ none := by obtain ⟨_, _, _, _, _, _, rfl, o⟩ := R; exact o.live hx
theorem RmR.fresh {h0 bm M S h} (R : RmR h0 bm M S h) {x : Nat} (hx : S x) : h0 x = none := by obtain ⟨_, _, _, _, _, _, rfl, o⟩ := R; exact o.fresh hx
theorem RmR.more {h0 bm M S h h'} (R : RmR h0 bm M S h) (e : Go.Mx.le h h') : RmR h0 bm M S h' := by obtain ⟨ba, c, l, qs, els, who, rfl, o⟩ := R; exact ⟨ba, c, l, qs, els, who, rfl, o.more e⟩
theorem RmR.base {h0 h1 bm M S h} (R : RmR h0 bm M S h) (e : Go.Mx.le h1 h0) : RmR h1 bm M S h := by obtain ⟨ba, c, l, qs, els, who, rfl, o⟩ := R; exact ⟨ba, c, l, qs, els, who, rfl, o.base e⟩
theorem RmR.ext {h0 bm M S h h'} (R : RmR h0 bm M S h) {T : Nat → Prop} (e : Ext T h h') (n : ∀ x, S x → ¬ T x) (f : ∀ x, T x → h0 x = none) : RmR h0 bm M S h' := by obtain ⟨ba, c, l, qs, els, who, rfl, o⟩ := R; exact ⟨ba, c, l, qs, els, who, rfl, o.ext e n f⟩
theorem range_setq (n : Nat) (q : Nat → List Wait) (k : Nat) (l : List Wait) : ((List.range n).map q).set k l = (List.range n).map fun j => if j = k then l else q j := by
  apply List.ext_getElem?
  intro i
  rw [List.getElem?_set, List.getElem?_map, List.getElem?_map]
  by_cases hi : i < n
  · rw [List.getElem?_range hi]
    by_cases e : k = i
    · subst e
      simp [hi]
    · rw [if_neg e]
      simp [show ¬ i = k from fun q => e q.symm]
  · rw [List.getElem?_eq_none (by rw [List.length_range]; omega)]
    by_cases e : k = i
    · subst e
      simp [hi]
    · rw [if_neg e]; rfl
theorem range_get {n k : Nat} (q : Nat → List Wait) (h : k < n) : ((List.range n).map q)[k]? = some (q k) := by rw [List.getElem?_map, List.getElem?_range h]; rfl

def RFlushC (c : Option Addr → Int → Heap → (Bool → Heap → Prop) → Prop) : Prop := ∀ {h0 h : Heap} {bm : Nat} {M : BM} {S : Nat → Prop} {L : Nat} {k : Int} {Q : Bool → Heap → Prop}, RmR h0 bm M S h → M.Ok L → L ≤ 1000000000 → (¬ (0 ≤ k ∧ k < (M.n : Int)) → Q false h) →
  (∀ (i : Nat) S' h', k = i → i < M.n → RmR h0 bm (M.flush i) S' h' → Step S S' h h' → Q (decide (M.q i ≠ [])) h') → c (some (ptr bm)) k h Q
theorem rflush_spec {cd} (iD : RDoC cd) : RFlushC (ref21_Memory_Flush.M cd) := by
  intro h0 h bm M S L k Q R ok hL hE hQ
  obtain ⟨ba, c, l, qs, els, who, rfl, o⟩ := R
  have qln := o.q.out.len
  have qel := o.q.len
  rw [List.length_map, List.length_range] at qel
  have n8 := ok.n8
  have no : ¬ (0 ≤ k ∧ k < (M.n : Int)) → ref21_Memory_Flush.j3 cd (some (ptr bm)) k Q (true, ()) h := fun q => ⟨fun _ => hE q, fun e => (by cases e)⟩
  refine ⟨fun e => no (by have e : k < 0 := of_decide_eq_true e; omega), fun e => o.ld2 ⟨fun f => no (by have f : (qs.len : Int) ≤ k := of_decide_eq_true f; omega), fun f => ?_⟩⟩
  have e : ¬ k < 0 := of_decide_eq_false e
  have f : ¬ (qs.len : Int) ≤ k := of_decide_eq_false f
  obtain ⟨i, rfl⟩ := Int.eq_ofNat_of_zero_le (show 0 ≤ k by omega)
  have hin : i < M.n := by omega
  have hQ := fun S' h' => hQ i S' h' rfl hin
  obtain ⟨sl, hsl⟩ : ∃ sl, els[i]? = some sl := ⟨els[i]'(by omega), by simp⟩
  have row := o.q.row i sl _ hsl (range_get M.q hin)
  have rln := row.len
  have hql := ok.ql i
  have r64 := ok.r64
  obtain ⟨qa, qn, qc⟩ := qs
  dsimp only at qln
  cases qa with
  | none => obtain ⟨a, e⟩ := o.q.out.arr.addr (by dsimp only; omega); cases e
  | some qa =>
  have hb : 0 ≤ (i : Int) ∧ (i : Int) < (qn : Int) := ⟨by omega, by omega⟩
  have rQ : ∀ {g : Heap} {K : Sl → Prop}, Go.Mx.le h g → K sl → ld .sl g (qa.add (i * 1)) K := fun l hK => (o.q.out.arr.le l).ldAt rfl hsl rfl hK
  have le0 := Go.Mx.le.refl h
  refine o.ld2 ⟨hb, rQ le0 ?_⟩
  show ref21_Memory_Flush.j3 cd (some (ptr bm)) (i : Int) Q (decide ((sl.len : Int) = 0), ()) h
  cases hq : M.q i with
  | nil =>
    rw [hq] at rln
    rw [decide_eq_true (show (sl.len : Int) = 0 by rw [← rln]; rfl)]
    refine ⟨fun _ => ?_, fun e => (by cases e)⟩
    rw [BM.flush_nil hq, hq] at hQ
    exact hQ _ h ⟨ba, c, l, _, els, who, rfl, o⟩ (.refl _ _)
  | cons w r =>
    rw [hq] at rln row hql
    rw [List.length_cons] at rln hql
    rw [decide_eq_false (show ¬ (sl.len : Int) = 0 by omega)]
    refine ⟨fun e => (by cases e), fun _ => ?_⟩
    obtain ⟨sa, sn, sc⟩ := sl
    dsimp only at rln
    cases sa with
    | none => obtain ⟨a, e⟩ := row.arr.addr (by dsimp only; omega); cases e
    | some sa =>
    have hb0 : 0 ≤ (0 : Int) ∧ (0 : Int) < (sn : Int) := ⟨Int.le_refl _, by omega⟩
    refine o.ld2 ⟨hb, rQ le0 ⟨hb0, row.arr.ldAt (i := 0) rfl rfl rfl ?_⟩⟩
    have hfl := BM.flush_cons hq
    refine Loop.idxB r.length (fun j s g => s.2.1 = ((j + 1 : Nat) : Int) ∧ New h g KWt s.1 (r.take j)) ⟨rfl, New.nil h KWt⟩ ?_
    rintro j ⟨t, j', u⟩ g go hj ⟨hc, n⟩ hgo
    dsimp only at hc n; subst hc
    have lg := n.le
    have og := o.more lg
    have tln := n.len
    rw [List.length_take] at tln
    refine og.ld2 ⟨hb, rQ lg ⟨fun d => ?_, fun d => ?_⟩⟩
    · have d : ((j + 1 : Nat) : Int) < (sn : Int) := of_decide_eq_true d
      have hjr : j < r.length := by omega
      have hbj : 0 ≤ ((j + 1 : Nat) : Int) ∧ ((j + 1 : Nat) : Int) < (sn : Int) := ⟨by omega, d⟩
      have hx : (w :: r)[j + 1]? = some r[j] := by simp [hjr]
      refine og.ld2 ⟨hb, rQ lg ⟨hbj, (row.arr.le lg).ldAt (i := j + 1) rfl hx rfl ?_⟩⟩
      refine n.app3 rfl rfl (by omega) fun t2 h2 n2 x2 b2 => hgo hjr _ _ ⟨?_, ?_⟩
      · show w64 (((j + 1 : Nat) : Int) + 1) = _
        rw [w64_of] <;> omega
      · rw [take_succ' r hjr]; exact n2
    · have d : ¬ ((j + 1 : Nat) : Int) < (sn : Int) := of_decide_eq_false d
      rw [List.take_of_length_le (by omega)] at n
      refine og.ld2 ⟨hb, o.q.put (p := (i : Int)) (i := i) rfl hsl (n.base o.q.le) lg.toExt (fun b hb => .inr (n.new b hb)) rfl fun h3 q3 s3 => ?_⟩
      rw [range_setq] at q3
      obtain ⟨o3, t3⟩ := o.queue (M' := M.setq i r) q3 s3 rfl rfl rfl rfl rfl
      refine o3.ld0 (deref_some ?_)
      refine o3.ar.actor fun h4 a4 s4 => ?_
      obtain ⟨o4, t4⟩ := o3.arena (M' := M.setq i r) a4 s4 rfl rfl rfl o3.wt
      refine o4.ld0 (iD (t := (0, (1, (w.1, (w.2.1, (0, ())))))) o4.ar (by have := ok.lg; show M.lg.length ≤ _; omega) (by exact ok.cs) ok.sz fun c' l' h5 a5 s5 => ?_)
      have hin' : InC M.cs w.1 := ok.qin i w (by rw [hq]; exact .head _)
      have hc : cact M.sz M.cs (0, (1, (w.1, (w.2.1, (0, ()))))) = (M.cs.set w.1.toNat w.2.1, ef 0 0) := by
        unfold cact
        exact (if_neg (show ¬ (1 : Int) = 0 by decide)).trans ((if_pos rfl).trans (if_pos hin'))
      have a5 : RaS h0 h5 ba c' l' M.sz (cact M.sz M.cs (0, (1, (w.1, (w.2.1, (0, ())))))).1 (if (cact M.sz M.cs (0, (1, (w.1, (w.2.1, (0, ())))))).2.2.2.1 = 0 then M.lg ++ [toldP (i : Int) (0, (1, (w.1, (w.2.1, (0, ()))))) (cact M.sz M.cs (0, (1, (w.1, (w.2.1, (0, ())))))).2] else M.lg) (i : Int) := a5
      rw [hc] at a5
      have a5 : RaS h0 h5 ba c' l' (M.flush i).sz (M.flush i).cs (M.flush i).lg (i : Int) := by
        rw [hfl]
        show RaS h0 h5 ba c' l' M.sz (M.cs.set w.1.toNat w.2.1) (wl M.wt M.lg _) (i : Int)
        rw [o.wt]
        exact a5
      obtain ⟨o5, t5⟩ := o4.arena (M' := M.flush i) a5 s5 (by rw [hfl]; rfl) (by rw [hfl]; rfl) (by rw [hfl]; rfl) (by rw [hfl]; exact o.wt)
      have := hQ _ h5 ⟨ba, c', l', _, _, _, rfl, o5⟩ (t3.trans (t4.trans t5))
      rw [hq] at this
      exact this

end Go.Mx
