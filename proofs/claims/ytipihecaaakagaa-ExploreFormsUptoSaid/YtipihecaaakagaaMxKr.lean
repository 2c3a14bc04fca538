/-
  Explore: the walk goes down.
  Explore: the walk goes down, whole.
-/
import Derived.Test.YtipihecaaakagaaMxKp
set_option linter.unusedVariables false
set_option linter.unusedSimpArgs false
set_option linter.unusedSectionVars false
namespace Go.Mx

def cntL (nA : Nat) (u : List Int) : List Int := (List.range nA).map fun o => (cnt u o : Int)
theorem cntL_at {nA : Nat} {u : List Int} {o : Nat} (h : o < nA) : (cntL nA u)[o]? = some (cnt u o : Int) := by
  unfold cntL; rw [List.getElem?_map, List.getElem?_range h]; rfl
theorem cntL_len (nA : Nat) (u : List Int) : (cntL nA u).length = nA := by simp [cntL]
theorem cntL_snoc {nA : Nat} {u : List Int} {w : Nat} : (cntL nA u).set w ((cnt u w + 1 : Nat) : Int) = cntL nA (u ++ [(w : Int)]) := by
  apply List.ext_getElem
  · simp [cntL]
  · intro o h1 h2
    rw [List.getElem_set]
    simp only [cntL, List.getElem_map, List.getElem_range, cnt_snoc]
    by_cases z : w = o
    · subst z; rw [if_pos rfl, if_pos rfl]
    · rw [if_neg z, if_neg (fun q => z q.symm), Nat.add_zero]
theorem cntL_back {nA : Nat} {u : List Int} {w : Nat} : (cntL nA (u ++ [(w : Int)])).set w (cnt u w : Int) = cntL nA u := by
  apply List.ext_getElem
  · simp [cntL]
  · intro o h1 h2
    rw [List.getElem_set]
    simp only [cntL, List.getElem_map, List.getElem_range, cnt_snoc]
    by_cases z : w = o
    · subst z; rw [if_pos rfl]
    · rw [if_neg z, if_neg (fun q => z q.symm), Nat.add_zero]

def fpD (b : Nat) (nx scr : Sl) (S : Nat → Prop) : Nat → Prop := fun x => x = b ∨ blkOf nx x ∨ blkOf scr x ∨ S x

section
variable {J : List (List Int) → (Nat → Prop) → Heap → Prop}
/-- The walk's state; J: what those have of it to whom the scripts are told. -/
structure DW (J : List (List Int) → (Nat → Prop) → Heap → Prop) (h0 h : Heap) (s : Sc) (b : Nat) (nx scr : Sl) (cs u : List Int) (S : Nat → Prop) (d : List (List Int)) : Prop where
  obj : Obj h b kexplorewalk (s, (nx, (scr, ())))
  own : New h0 h ki nx cs
  scp : New h0 h ki scr u
  con : J d S h
  bf : h0 b = none
  sf : ∀ x, S x → h0 x = none
  b1 : ¬ blkOf nx b
  b2 : ¬ blkOf scr b
  b3 : ¬ S b
  s1 : Apart nx scr
  s2 : ∀ x, blkOf nx x → ¬ S x
  s3 : ∀ x, blkOf scr x → ¬ S x
variable {h0 h : Heap} (hJe : ∀ d S h T h', J d S h → Ext T h h' → (∀ x, S x → ¬ T x) → (∀ x, T x → h0 x = none) → J d S h') (hJl : ∀ d S h x, J d S h → S x → h x ≠ none)
  {s : Sc} {b : Nat} {nx scr : Sl} {cs u : List Int} {S : Nat → Prop} {d : List (List Int)}
theorem DW.fresh (D : DW J h0 h s b nx scr cs u S d) {x : Nat} (hx : fpD b nx scr S x) : h0 x = none := by
  rcases hx with rfl | hx | hx | hx
  · exact D.bf
  · exact D.own.new x hx
  · exact D.scp.new x hx
  · exact D.sf x hx
include hJl in
theorem DW.live (D : DW J h0 h s b nx scr cs u S d) {x : Nat} (hx : fpD b nx scr S x) : h x ≠ none := by
  rcases hx with rfl | hx | hx | hx
  · exact D.obj.live
  · exact D.own.own.live x hx
  · exact D.scp.own.live x hx
  · exact hJl _ _ _ _ D.con hx
theorem DW.base (D : DW J h0 h s b nx scr cs u S d) : Go.Mx.le h0 h := D.own.le
include hJe in
theorem DW.ext (D : DW J h0 h s b nx scr cs u S d) {T : Nat → Prop} {h' : Heap} (e : Ext T h h') (n : ∀ x, fpD b nx scr S x → ¬ T x) (f : ∀ x, T x → h0 x = none) : DW J h0 h' s b nx scr cs u S d where
  obj := D.obj.ext e (n b (.inl rfl))
  own := D.own.ext e (fun x q => n x (.inr (.inl q))) f
  scp := D.scp.ext e (fun x q => n x (.inr (.inr (.inl q)))) f
  con := hJe _ _ _ _ _ D.con e (fun x q => n x (.inr (.inr (.inr q)))) f
  bf := D.bf
  sf := D.sf
  b1 := D.b1
  b2 := D.b2
  b3 := D.b3
  s1 := D.s1
  s2 := D.s2
  s3 := D.s3
include hJe in
theorem DW.more (D : DW J h0 h s b nx scr cs u S d) {h' : Heap} (e : Go.Mx.le h h') : DW J h0 h' s b nx scr cs u S d := D.ext hJe (T := fun _ => False) e.toExt (fun _ _ => id) (fun _ q => q.elim)
include hJe in
theorem DW.setNx (D : DW J h0 h s b nx scr cs u S d) {i : Nat} (hi : i < cs.length) {v : Int} {K : Heap → Prop} (hK : ∀ h', DW J h0 h' s b nx scr (cs.set i v) u S d → Ext (blkOf nx) h h' → K h') :
    deref nx.a fun a => Go.Mx.st ki h (a.add (((i : Int)).toNat * 1)) v K := by
  have hl := D.own.len
  refine D.own.set (i := (i : Int)) (Int.natCast_nonneg i) (by omega) rfl rfl fun h' n x => hK h' ?_ x
  rw [Int.toNat_natCast] at n
  exact ⟨D.obj.ext x D.b1, n, D.scp.ext x (fun y a c => D.s1 y c a) D.own.new, hJe _ _ _ _ _ D.con x (fun y a c => D.s2 y c a) D.own.new, D.bf, D.sf, D.b1, D.b2, D.b3, D.s1, D.s2, D.s3⟩
include hJe in
theorem DW.putScr (D : DW J h0 h s b nx scr cs u S d) {scr' : Sl} {u' : List Int} (n : New h0 h ki scr' u') (b2 : ¬ blkOf scr' b) (s1 : Apart nx scr') (s3 : ∀ x, blkOf scr' x → ¬ S x) {K : Heap → Prop}
    (hK : ∀ h', DW J h0 h' s b nx scr' cs u' S d → Ext (fun x => x = b) h h' → K h') : deref (some (ptr b)) fun a => Go.Mx.st .sl h (a.add 4) scr' K := by
  show Go.Mx.st .sl h ((ptr b).add 4) scr' K
  refine D.obj.st (x' := (s, (nx, (scr', ())))) rfl (by decide) rfl fun h' o x => hK h' ?_ x
  exact ⟨o, D.own.ext x (fun y a c => D.b1 (by rw [← c]; exact a)) (fun y c => by rw [c]; exact D.bf), n.ext x (fun y a c => b2 (by rw [← c]; exact a)) (fun y c => by rw [c]; exact D.bf), hJe _ _ _ _ _ D.con x (fun y a c => D.b3 (by rw [← c]; exact a)) (fun y c => by rw [c]; exact D.bf), D.bf, D.sf, D.b1, b2, D.b3, s1, D.s2, s3⟩
include hJe hJl in
theorem DW.push (D : DW J h0 h s b nx scr cs u S d) {w : Int} (hb : (u.length + 1) * 8 ≤ 140737488355328) {K : Heap → Prop} (hK : ∀ scr' h', DW J h0 h' s b nx scr' cs (u ++ [w]) S d → Step (fpD b nx scr S) (fpD b nx scr' S) h h' → K h') :
    deref (some (ptr b)) fun a => ld (.sl : Kd) h (a.add 4) fun t => Go.Mx.new h (([w] : List (Den ki)).flatMap (Kd.cells ki)) fun p h1 => appendM 1 8 h1 t ⟨some p, 1, 1⟩ fun t2 h2 => deref (some (ptr b)) fun a => Go.Mx.st (.sl : Kd) h2 (a.add 4) t2 K := by
  show ld (.sl : Kd) h ((ptr b).add 4) fun t => Go.Mx.new h (([w] : List (Den ki)).flatMap (Kd.cells ki)) fun p h1 => appendM 1 8 h1 t ⟨some p, 1, 1⟩ fun t2 h2 => Go.Mx.st (.sl : Kd) h2 ((ptr b).add 4) t2 K
  refine D.obj.ld (k := kexplorewalk) (kf := .sl) (y := scr) ⟨(Kd.cells kexplorewalk (s, (nx, (scr, ())))).take 4, [], rfl, rfl⟩ ?_
  have hl := D.scp.len
  refine D.scp.app3 (k := ki) (x := w) rfl rfl (by rw [← hl]; exact hb) fun t2 h2 n2 x2 b2 => ?_
  have e2 : ∀ x, fpD b nx ⟨none, 0, 0⟩ S x → ¬ blkOf scr x := fun x hx => by
    rcases hx with rfl | hx | hx | hx
    · exact D.b2
    · exact D.s1 x hx
    · exact fun _ => no_blk hx
    · exact fun q => D.s3 x q hx
  have off : ∀ x, fpD b nx ⟨none, 0, 0⟩ S x → ¬ blkOf t2 x := fun x hx q => by
    rcases b2 x q with z | z
    · exact e2 x hx z
    · refine D.live hJl (x := x) ?_ z
      rcases hx with hx | hx | hx | hx
      · exact .inl hx
      · exact .inr (.inl hx)
      · exact absurd hx no_blk
      · exact .inr (.inr (.inr hx))
  have D2 : DW J h0 h2 s b nx ⟨none, 0, 0⟩ cs [] S d → True := fun _ => trivial
  have o2 := D.obj.ext x2 D.b2
  refine o2.st (x' := (s, (nx, (t2, ())))) rfl (by decide) rfl fun h' o x => hK t2 h' ?_ ⟨(x2.mono fun y q => .inr (.inr (.inl q))).trans (x.mono fun y q => .inl q), fun y hy => ?_⟩
  · have own2 := D.own.ext x2 (fun y a c => D.s1 y a c) D.scp.new
    have con2 := hJe _ _ _ _ _ D.con x2 (fun y a c => D.s3 y c a) D.scp.new
    exact ⟨o, own2.ext x (fun y a c => D.b1 (by rw [← c]; exact a)) (fun y c => by rw [c]; exact D.bf), n2.ext x (fun y a c => off b (.inl rfl) (by rw [← c]; exact a)) (fun y c => by rw [c]; exact D.bf), hJe _ _ _ _ _ con2 x (fun y a c => D.b3 (by rw [← c]; exact a)) (fun y c => by rw [c]; exact D.bf), D.bf, D.sf, D.b1, off b (.inl rfl), D.b3, fun y a c => off y (.inr (.inl a)) c, D.s2, fun y a c => off y (.inr (.inr (.inr c))) a⟩
  · rcases hy with hy | hy | hy | hy
    · exact .inl (.inl hy)
    · exact .inl (.inr (.inl hy))
    · rcases b2 y hy with z | z
      · exact .inl (.inr (.inr (.inl z)))
      · exact .inr z
    · exact .inl (.inr (.inr (.inr hy)))
theorem DW.ldNx (D : DW J h0 h s b nx scr cs u S d) {K : Sl → Prop} (hK : K nx) : ld (.sl : Kd) h ((ptr b).add 3) K := D.obj.ld (k := kexplorewalk) (kf := .sl) (y := nx) ⟨(Kd.cells kexplorewalk (s, (nx, (scr, ())))).take 3, [Kd.val .sl scr], rfl, rfl⟩ hK
theorem DW.ldScr (D : DW J h0 h s b nx scr cs u S d) {K : Sl → Prop} (hK : K scr) : ld (.sl : Kd) h ((ptr b).add 4) K := D.obj.ld (k := kexplorewalk) (kf := .sl) (y := scr) ⟨(Kd.cells kexplorewalk (s, (nx, (scr, ())))).take 4, [], rfl, rfl⟩ hK
theorem DW.ldSc (D : DW J h0 h s b nx scr cs u S d) {K : Sc → Prop} (hK : K s) : ld kapiScene h ((ptr b).add 0) K := D.obj.ld (k := kexplorewalk) (kf := kapiScene) (y := s) ⟨[], (Kd.cells kexplorewalk (s, (nx, (scr, ())))).drop 3, rfl, rfl⟩ hK
theorem DW.seesSc (D : DW J h0 h s b nx scr cs u S d) : sees h (some ((ptr b).add 0)) kapiScene s := D.obj.sees (k := kexplorewalk) (kf := kapiScene) (y := s) ⟨[], (Kd.cells kexplorewalk (s, (nx, (scr, ())))).drop 3, rfl, rfl⟩
theorem DW.ldLs (D : DW J h0 h s b nx scr cs u S d) {K : Sl → Prop} (hK : K s.2.2.1) : ld (.sl : Kd) h (((ptr b).add 0).add 2) K := by
  rw [add_add']
  exact D.obj.ld (k := kexplorewalk) (kf := .sl) (y := s.2.2.1) ⟨(Kd.cells kexplorewalk (s, (nx, (scr, ())))).take 2, (Kd.cells kexplorewalk (s, (nx, (scr, ())))).drop 3, rfl, rfl⟩ hK

theorem act_specD (D : DW J h0 h s b nx scr cs u S d) {bs : List Int} {xss : List (List Ac)} (r : ScR h0 s bs xss) {i c : Nat} (hi : i < xss.length) (hc : cs[i]? = some (c : Int)) {xs : List Ac} (hx : xss[i]? = some xs) (hlt : c < xs.length) {Q : Ac → Heap → Prop} (hQ : Q (xAt xss i c) h) :
    explore_walk_act.M (some (ptr b)) (i : Int) h Q := by
  obtain ⟨size, bg, lsl, u0⟩ := s
  obtain ⟨r1, sls, r2, r3, r4⟩ := r
  dsimp only at r1 r2
  have r2 := r2.le D.base
  have hsl : lsl.len = xss.length := by rw [← r3, r2.1]
  have hnl := D.own.len
  have hcl := (List.getElem?_eq_some_iff.1 hc).1
  have hsi : sls[i]? = some (sls[i]'(by omega)) := by simp
  have hrow := (r4 i _ _ hsi hx).le D.base
  have hrl := hrow.1
  refine D.ldLs ⟨⟨Int.natCast_nonneg i, show (i : Int) < (lsl.len : Int) by omega⟩, r2.at (Int.natCast_nonneg i) (by omega) rfl fun y hy => ?_⟩
  rw [Int.toNat_natCast, hsi] at hy
  obtain rfl := Option.some.inj hy
  refine D.ldNx ⟨⟨Int.natCast_nonneg i, show (i : Int) < (nx.len : Int) by omega⟩, D.own.arr.at (Int.natCast_nonneg i) (by omega) rfl fun y hy => ?_⟩
  rw [Int.toNat_natCast, hc] at hy
  obtain rfl := Option.some.inj hy
  refine ⟨⟨Int.natCast_nonneg c, show (c : Int) < (sls[i].len : Int) by omega⟩, hrow.at (Int.natCast_nonneg c) (by omega) rfl fun y hy => ?_⟩
  rw [Int.toNat_natCast] at hy
  have hxa : xAt xss i c = y := by
    unfold xAt
    rw [hx]
    show (xs[c]?).getD ac0 = y
    rw [hy]; rfl
  rw [hxa] at hQ
  exact hQ
end
end Go.Mx

namespace Go.Mx

theorem mapsClone_spec {cc : Value → Heap → (Value → Heap → Prop) → Prop} (i : ∀ (ty : TypeId) {b : Nat} {h : Heap} {es : Array MapEntry} {c : Nat} {Q : Value → Heap → Prop}, h b = some (.map es c) → (∀ b', h b' = none → Q (Value.iface ty (.map (some b'))) (upd h b' (.map es c))) → cc (Value.iface ty (.map (some b))) h Q)
    {m : Nat} {h : Heap} {l : List (Int × Int)} (hm : MapIs h m ki ki l) {Q : Option Nat → Heap → Prop} (hQ : ∀ m' h', h m' = none → MapIs h' m' ki ki l → le h h' → Q (some m') h') : maps_Clone_map_int_int_int_int.M cc (some m) h Q := by
  obtain ⟨es, c, h1, h2⟩ := hm
  exact ⟨fun q => (by cases q), fun _ => i _ h1 fun b' hb => ⟨_, rfl, hQ b' _ hb ⟨es, c, upd_same _ _ _, h2⟩ (le_upd hb _)⟩⟩
theorem leftOf_mem {es : Array MapEntry} {seen : Array Nat} {e : MapEntry} : e ∈ (leftOf es seen).toList ↔ e ∈ es.toList ∧ seen.contains e.born = false := by
  unfold leftOf
  simp
theorem leftOf_push {es : Array MapEntry} {seen : Array Nat} {e : MapEntry} (he : e ∈ (leftOf es seen).toList) : (leftOf es (seen.push e.born)).size < (leftOf es seen).size := by
  have h1 := (leftOf_mem.1 he)
  have key : ∀ s : Array Nat, (leftOf es s).size = (es.toList.filter fun x => !s.contains x.born).length := fun s => by
    unfold leftOf
    rw [← Array.length_toList, Array.toList_filter]
  rw [key, key]
  refine filter_lt _ _ (fun x hx => ?_) e (by simpa using h1.2) (by simp) es.toList h1.1
  simp at hx ⊢
  exact hx.1

section
variable {J : List (List Int) → (Nat → Prop) → Heap → Prop} {h0 : Heap} (hJe : ∀ d S h T h', J d S h → Ext T h h' → (∀ x, S x → ¬ T x) → (∀ x, T x → h0 x = none) → J d S h') (hJl : ∀ d S h x, J d S h → S x → h x ≠ none)
  {s : Sc} {bs : List Int} {xss : List (List Ac)} (r : ScR h0 s bs xss) (h4 : xss.length ≤ 4) (hT : (xss.map List.length).sum ≤ 10)
  {cC : Option Nat → Heap → (Option Nat → Heap → Prop) → Prop} {cA : Option Addr → Int → Heap → (Ac → Heap → Prop) → Prop} {cD : Sc → Ac → Ac → Heap → (Bool → Heap → Prop) → Prop}
  {F : Option Addr → Option Nat → Value → Heap → (Bool → Heap → Prop) → Prop} {cS : Sl → Heap → (Sl → Heap → Prop) → Prop} {cY : Value → Sl → Heap → (Bool → Heap → Prop) → Prop}
  (iC : ∀ {m : Nat} {h : Heap} {l : List (Int × Int)} {Q : Option Nat → Heap → Prop}, MapIs h m ki ki l → (∀ m' h', h m' = none → MapIs h' m' ki ki l → le h h' → Q (some m') h') → cC (some m) h Q)
  (iA : ∀ {p i h Q}, explore_walk_act.M p i h Q → cA p i h Q)
  (iD : ∀ {x y : Ac} {h : Heap} {Q : Bool → Heap → Prop}, (∀ b : Bool, (b = true ↔ DepI s.1 (s.2.1.len : Int) x.2.1 x.2.2.1 x.2.2.2.1 y.2.1 y.2.2.1 y.2.2.2.1) → Q b h) → cD s x y h Q)
  (jF : ∀ {p m y h Q}, explore_walk_down.M cC cA cD F cS cY p m y h Q → F p m y h Q)
  (iS : ∀ {t : Sl} {h : Heap} {xs : List Int} {Q : Sl → Heap → Prop}, Arr h ki t xs → t.len ≤ 2097152 → (∀ r h', New h h' ki r xs → Q r h') → cS t h Q)
  {yv : Value} (hy : ∀ {d : List (List Int)} {S : Nat → Prop} {h : Heap} {sl : Sl} {q : List Int} {K : Bool → Heap → Prop}, J d S h → New h0 h ki sl q → (∀ x, blkOf sl x → ¬ S x) → (∀ x, S x → h0 x = none) → d.length ≤ 2000000 → ScriptP (xss.map List.length) q →
    (∀ S' h', J (d ++ [q]) S' h' → Step (fun x => S x ∨ blkOf sl x) S' h h' → K true h') → cY yv sl h K)
include hJe hJl r h4 hT iC iA iD jF iS hy
theorem down_spec : ∀ (n : Nat) (u : List Int) (b : Nat) (nx scr : Sl) (S : Nat → Prop) (d : List (List Int)) (m : Nat) (l : List (Int × Int)) (h : Heap) (Q : Bool → Heap → Prop), u.length + n = (xss.map List.length).sum → InR xss.length u → (∀ w, cnt u w ≤ lensAt xss w) →
    NbS (bdE s.1 bs.length xss) whoE (evL u) → DW J h0 h s b nx scr (cntL xss.length u) u S d → MapIs h m ki ki l → Slp l (Asl s.1 bs.length xss u) → ¬ fpD b nx scr S m → d.length + 4 ^ n ≤ 2000000 →
    (∀ scr' S' h', DW J h0 h' s b nx scr' (cntL xss.length u) u S' (d ++ nbL s.1 bs.length xss n u) → Step (fpD b nx scr S) (fpD b nx scr' S') h h' → Q true h') → F (some (ptr b)) (some m) yv h Q := by
  intro n
  induction n with
  | zero =>
    intro u b nx scr S d m l h Q hn hin hle hnb D hm hsl hmf hdl hQ
    have hdone := (all_done hin hle).1 (by omega)
    have hbg := r.beg
    have hlsl := r.lists
    obtain ⟨size, bg, lsl, u0⟩ := s
    have hlsl : lsl.len = xss.length := hlsl
    refine jF (iC hm fun m5 h6 hm5 mi5 le6 => ?_)
    have D6 := D.more hJe le6
    refine D6.ldLs ?_
    refine Loop.up xss.length (fun s => s.2.1) (fun w st k => k = h6 ∧ st.1 = true) rfl ⟨rfl, rfl⟩ ?_
    rintro w ⟨ov, w', u1⟩ k go hw hcw ⟨rfl, hov⟩ hgo
    dsimp only at hcw hov; subst hcw; subst hov
    refine dcs (fun e => ?_) (fun e => ?_)
    · have e : (w : Int) < (lsl.len : Int) := e
      have hwx : w < xss.length := by omega
      obtain ⟨r1, sls, r2, r3, r4⟩ := r
      dsimp only at r1 r2
      have hsi : sls[w]? = some (sls[w]'(by omega)) := by simp
      have hxw : xss[w]? = some xss[w] := by simp
      have hrow := (r4 w _ _ hsi hxw).1
      refine ⟨⟨Int.natCast_nonneg w, e⟩, (r2.le D6.base).at (Int.natCast_nonneg w) e rfl fun y hy' => ?_⟩
      rw [Int.toNat_natCast, hsi] at hy'
      obtain rfl := Option.some.inj hy'
      have hnl := D6.own.len
      rw [cntL_len] at hnl
      refine D6.ldNx ⟨⟨Int.natCast_nonneg w, show (w : Int) < (nx.len : Int) by omega⟩, D6.own.arr.at (Int.natCast_nonneg w) (by omega) rfl fun y hy' => ?_⟩
      rw [Int.toNat_natCast, cntL_at hwx] at hy'
      obtain rfl := Option.some.inj hy'
      have hla : lensAt xss w = xss[w].length := by unfold lensAt; rw [List.getElem?_map, hxw]; rfl
      have := hdone w hwx
      refine dcs (fun _ => hgo hwx _ _ (w64_up' (n := xss.length) hwx (by omega)) ⟨rfl, rfl⟩) (fun z => absurd (show (cnt u w : Int) = (sls[w].len : Int) by omega) z)
    · have hul : u.length ≤ 10 := by omega
      have hscl := D6.scp.len
      refine ⟨fun z => (by cases z), fun _ => D6.ldScr (iS D6.scp.arr (by omega) fun r73 h74 n74 => ?_)⟩
      have D7 := D6.more hJe n74.le
      have hfr : ∀ x, fpD b nx scr S x → ¬ blkOf r73 x := fun x hx q => D6.live hJl hx (n74.new x q)
      refine hy D7.con (n74.base D6.base) (fun x hx hS => hfr x (.inr (.inr (.inr hS))) hx) D7.sf (by omega) ⟨by rw [List.length_map]; exact hin, fun w l hl => by
        have hw : w < xss.length := by have := (List.getElem?_eq_some_iff.1 hl).1; simpa using this
        rw [hdone w hw]; unfold lensAt; rw [hl]; rfl⟩ fun S' h' hJ' st' => ?_
      have hnS : ∀ x, x = b ∨ blkOf nx x ∨ blkOf scr x → ¬ (S x ∨ blkOf r73 x) := fun x hx q => by
        rcases q with q | q
        · rcases hx with rfl | hx | hx
          · exact D6.b3 q
          · exact D6.s2 x hx q
          · exact D6.s3 x hx q
        · refine hfr x ?_ q
          rcases hx with hx | hx | hx
          · exact .inl hx
          · exact .inr (.inl hx)
          · exact .inr (.inr (.inl hx))
      have hfresh : ∀ x, (S x ∨ blkOf r73 x) → h0 x = none := fun x q => by
        rcases q with q | q
        · exact D6.sf x q
        · exact D6.base.none (n74.new x q)
      have hS' : ∀ x, S' x → h0 x = none := fun x hx => by
        rcases st'.2 x hx with q | q
        · exact hfresh x q
        · exact D7.base.none q
      have hoff : ∀ x, x = b ∨ blkOf nx x ∨ blkOf scr x → ¬ S' x := fun x hx q => by
        rcases st'.2 x q with q | q
        · exact hnS x hx q
        · refine D7.live hJl (x := x) ?_ q
          rcases hx with hx | hx | hx
          · exact .inl hx
          · exact .inr (.inl hx)
          · exact .inr (.inr (.inl hx))
      have D8 : DW J h0 h' (size, (bg, (lsl, u0))) b nx scr (cntL xss.length u) u S' (d ++ [u]) :=
        ⟨D7.obj.ext st'.1 (hnS b (.inl rfl)), D7.own.ext st'.1 (fun x q => hnS x (.inr (.inl q))) hfresh, D7.scp.ext st'.1 (fun x q => hnS x (.inr (.inr q))) hfresh, hJ', D7.bf, hS', D7.b1, D7.b2, hoff b (.inl rfl), D7.s1, fun x q => hoff x (.inr (.inl q)), fun x q => hoff x (.inr (.inr q))⟩
      refine hQ scr S' h' (by rw [nbL_zero hin hnb]; exact D8) ⟨?_, fun x hx => ?_⟩
      · refine ⟨fun c o ho hc => st'.1.1 c o (n74.le c o (le6 c o ho)) (fun q => ?_), fun c hc => le6.none (n74.le.none (st'.1.2 c hc))⟩
        rcases q with q | q
        · exact hc (.inr (.inr (.inr q)))
        · have := n74.new c q
          rw [le6 c o ho] at this; cases this
      · rcases hx with hx | hx | hx | hx
        · exact .inl (.inl hx)
        · exact .inl (.inr (.inl hx))
        · exact .inl (.inr (.inr (.inl hx)))
        · rcases st'.2 x hx with q | q
          · rcases q with q | q
            · exact .inl (.inr (.inr (.inr q)))
            · exact .inr (le6.none (n74.new x q))
          · exact .inr (le6.none (n74.le.none q))
  | succ n ih =>
    intro u b nx scr S d m l h Q hn hin hle hnb D hm hsl hmf hdl hQ
    have hbg := r.beg
    have hlsl := r.lists
    obtain ⟨size, bg, lsl, u0⟩ := s
    have hlsl : lsl.len = xss.length := hlsl
    have hbg : (bg.len : Int) = (bs.length : Int) := hbg
    have hnl := D.own.len
    rw [cntL_len] at hnl
    have hul : u.length < 10 := by omega
    have hcu : ∀ w, cnt u w ≤ u.length := fun w => by have := cnt_le u u.length w; rwa [List.take_length] at this
    generalize hP : (fun (w : Nat) (o : Nat) => Asl size bs.length xss u o ∨ (o < w ∧ cnt u o < lensAt xss o)) = Pw
    have hPi : ∀ w o, Pw w o ↔ Asl size bs.length xss u o ∨ (o < w ∧ cnt u o < lensAt xss o) := fun w o => by rw [← hP]
    have hla : ∀ w (hw : w < xss.length), lensAt xss w = xss[w].length := fun w hw => by unfold lensAt; rw [List.getElem?_map, List.getElem?_eq_getElem hw]; rfl
    have hlao : ∀ o, cnt u o < lensAt xss o → o < xss.length := fun o ho => by
      rcases Nat.lt_or_ge o xss.length with z | z
      · exact z
      · unfold lensAt at ho
        rw [List.getElem?_eq_none (by simpa using z)] at ho
        exact absurd ho (Nat.not_lt_zero _)
    refine jF (iC hm fun m5 h6 hm5 mi5 le6 => ?_)
    have D6 := D.more hJe le6
    refine D6.ldLs ?_
    have hpart : ∀ w, (List.range (w + 1)).flatMap (nbC size bs.length xss n u) = (List.range w).flatMap (nbC size bs.length xss n u) ++ nbC size bs.length xss n u w := fun w => by
      rw [List.range_succ, List.flatMap_append, List.flatMap_cons, List.flatMap_nil, List.append_nil]
    have hClen : ∀ w, (nbC size bs.length xss n u w).length ≤ 4 ^ n := fun w => by
      unfold nbC allC
      refine Nat.le_trans (List.length_filter_le _ _) ?_
      split
      · exact allW_len _ (by simpa using h4) n _
      · exact Nat.zero_le _
    refine Loop.up xss.length (fun s => s.2.1) (fun w st k => ∃ scr1 S1 l5, DW J h0 k (size, (bg, (lsl, u0))) b nx scr1 (cntL xss.length u) u S1 (d ++ (List.range w).flatMap (nbC size bs.length xss n u)) ∧ Step (fpD b nx scr S) (fpD b nx scr1 S1) h k ∧
        MapIs k m5 ki ki l5 ∧ Slp l5 (Pw w) ∧ ¬ fpD b nx scr1 S1 m5 ∧ (st.1 = true ↔ ∀ o < w, ¬ cnt u o < lensAt xss o)) rfl
      ⟨scr, S, l, by simpa using D6, Step.ofLe le6, mi5, hsl.congr fun o => by rw [hPi]; constructor; exact .inl; exact fun q => q.resolve_right (fun q => absurd q.1 (Nat.not_lt_zero _)), fun q => D.live hJl q hm5, ⟨fun _ o ho => absurd ho (Nat.not_lt_zero _), fun _ => rfl⟩⟩ ?_
    rintro w ⟨ov, w', u1⟩ k go hw hcw ⟨scr1, S1, l5, D1, st1, mk5, sl5, nf5, hov⟩ hgo
    dsimp only at hcw hov; subst hcw
    refine dcs (fun e => ?_) (fun e => ?_)
    · have e : (w : Int) < (lsl.len : Int) := e
      have hwx : w < xss.length := by omega
      have hxw : xss[w]? = some xss[w] := by simp
      have hr' := r
      obtain ⟨r1, sls, r2, r3, r4⟩ := r
      dsimp only at r1 r2
      have hsi : sls[w]? = some (sls[w]'(by omega)) := by simp
      have hrow := (r4 w _ _ hsi hxw).1
      refine ⟨⟨Int.natCast_nonneg w, e⟩, (r2.le D1.base).at (Int.natCast_nonneg w) e rfl fun y hy' => ?_⟩
      rw [Int.toNat_natCast, hsi] at hy'
      obtain rfl := Option.some.inj hy'
      refine D1.ldNx ⟨⟨Int.natCast_nonneg w, show (w : Int) < (nx.len : Int) by omega⟩, D1.own.arr.at (Int.natCast_nonneg w) (by omega) rfl fun y hy' => ?_⟩
      rw [Int.toNat_natCast, cntL_at hwx] at hy'
      obtain rfl := Option.some.inj hy'
      have hlw := hla w hwx
      have hcw := hcu w
      refine dcs (fun z => ?_) (fun z => ?_)
      · -- done
        have z : (cnt u w : Int) = (sls[w].len : Int) := z
        have hdw : ¬ cnt u w < lensAt xss w := by omega
        refine hgo hwx _ _ (w64_up' (n := xss.length) hwx (by omega)) ⟨scr1, S1, l5, ?_, st1, mk5, sl5.congr fun o => ?_, nf5, ?_⟩
        · rw [hpart, nbC_done hdw, List.append_nil]; exact D1
        · rw [hPi, hPi]
          constructor
          · rintro (q | ⟨q1, q2⟩)
            · exact .inl q
            · exact .inr ⟨by omega, q2⟩
          · rintro (q | ⟨q1, q2⟩)
            · exact .inl q
            · refine .inr ⟨?_, q2⟩
              rcases Nat.lt_or_ge o w with x | x
              · exact x
              · have : o = w := by omega
                subst this; exact absurd q2 hdw
        · show ov = true ↔ _
          rw [hov]
          constructor
          · intro q o ho
            rcases Nat.lt_or_ge o w with x | x
            · exact q o x
            · have : o = w := by omega
              subst this; exact hdw
          · exact fun q o ho => q o (by omega)
      have z : ¬ (cnt u w : Int) = (sls[w].len : Int) := z
      have hlt : cnt u w < lensAt xss w := by have := hle w; omega
      have hovn : ∀ {o : Nat}, ¬ ((false : Bool) = true ↔ ∀ o < w + 1, ¬ cnt u o < lensAt xss o) → False := fun q => q ⟨fun c => (by cases c), fun c => absurd hlt (c w (by omega))⟩
      have hovf : (false : Bool) = true ↔ ∀ o < w + 1, ¬ cnt u o < lensAt xss o := ⟨fun c => (by cases c), fun c => absurd hlt (c w (by omega))⟩
      refine ⟨l5, mk5, dcs (fun y => ?_) (fun y => ?_)⟩
      · -- asleep
        have y := (sl5.look w).1 y
        have hA : Asl size bs.length xss u w := by
          rcases (hPi w w).1 y with q | q
          · exact q
          · omega
        refine hgo hwx _ _ (w64_up' (n := xss.length) hwx (by omega)) ⟨scr1, S1, l5, ?_, st1, mk5, sl5.congr fun o => ?_, nf5, hovf⟩
        · rw [hpart, nbC_asleep hin hle hwx hA, List.append_nil]; exact D1
        · rw [hPi, hPi]
          constructor
          · rintro (q | ⟨q1, q2⟩)
            · exact .inl q
            · exact .inr ⟨by omega, q2⟩
          · rintro (q | ⟨q1, q2⟩)
            · exact .inl q
            · rcases Nat.lt_or_ge o w with x | x
              · exact .inr ⟨x, q2⟩
              · have : o = w := by omega
                subst this; exact .inl hA
      -- down
      have y : ¬ Pw w w := fun q => y ((sl5.look w).2 q)
      have hnA : ¬ Asl size bs.length xss u w := fun q => y ((hPi w w).2 (.inl q))
      have hnZ : ¬ Zz (bdE size bs.length xss) whoE (evL u) (nextE u w) := fun q => hnA ⟨hlt, q⟩
      refine iA (act_specD D1 hr' hwx (cntL_at hwx) hxw (by omega) ?_)
      refine iC mk5 fun m6 h25 hm6 mi6 le25 => ?_
      have D2 := D1.more hJe le25
      have mk5' := mk5
      obtain ⟨es, c, hes, hent, hborn⟩ := mk5
      have hes25 := le25 _ _ hes
      refine ⟨es, c, hes25, fun it hit => ?_⟩
      have le27 : le h25 (upd h25 it (.raw (.mapIter (some m5) c #[] c))) := le_upd hit _
      have hm6l : h25 m6 ≠ none := mi6.live
      have hm5l : h25 m5 ≠ none := by rw [hes25]; exact fun q => by cases q
      have ne65 : m5 ≠ m6 := fun q => by rw [q] at hes; rw [hes] at hm6; cases hm6
      have nei5 : m5 ≠ it := fun q => hm5l (by rw [q]; exact hit)
      have nei6 : m6 ≠ it := fun q => hm6l (by rw [q]; exact hit)
      let seenK : Array Nat → Nat → Prop := fun seen o => ∃ e ∈ es.toList, e.key = Kd.val ki ((o : Int) : Den ki) ∧ seen.contains e.born = true
      let dep : Nat → Prop := fun o => bdE size bs.length xss (nextE u w) (nextE u o) = true
      refine ⟨fun _ k2 => ∃ seen lb, k2 it = some (.raw (.mapIter (some m5) c seen c)) ∧ k2 m5 = some (.map es c) ∧ MapIs k2 m6 ki ki lb ∧ Slp lb (fun o => Pw w o ∧ ¬ (seenK seen o ∧ dep o)) ∧ Ext (fun x => x = it ∨ x = m6) (upd h25 it (.raw (.mapIter (some m5) c #[] c))) k2,
        fun _ k2 => match k2 it with | some (.raw (.mapIter _ _ seen _)) => (leftOf es seen).size | _ => 0, ⟨#[], l5, upd_same _ _ _, by rw [upd_ne _ _ nei5]; exact hes25, MapIs.ext mi6 (S := fun _ => False) le27.toExt id, sl5.congr fun o => ⟨fun q => ⟨q, fun ⟨⟨e, _, _, q2⟩, _⟩ => by simp at q2⟩, fun q => q.1⟩, Ext.refl _ _⟩, ?_⟩
      rintro ⟨⟩ k2 ⟨seen, lb, hk1, hk2, hk3, hk4, hk5⟩
      have hbl : ∀ x ∈ es.toList, x.born < c := fun x hx => hborn.2 _ (List.mem_map_of_mem hx)
      have hD3 : ∀ {k3 : Heap}, Ext (fun x => x = it ∨ x = m6) (upd h25 it (.raw (.mapIter (some m5) c #[] c))) k3 → DW J h0 k3 (size, (bg, (lsl, u0))) b nx scr1 (cntL xss.length u) u S1 (d ++ (List.range w).flatMap (nbC size bs.length xss n u)) := fun {k3} x3 => by
        refine (D2.more hJe le27).ext hJe x3 (fun x hx q => ?_) (fun x q => ?_)
        · rcases q with rfl | rfl
          · exact D2.live hJl hx hit
          · exact D1.live hJl hx hm6
        · rcases q with rfl | rfl
          · exact D2.base.none hit
          · exact D1.base.none hm6
      refine ⟨m5, c, seen, c, es, c, hk1, hk2, hbl, Nat.le_refl _, fun hz => ⟨fun q => (by cases q), fun _ => ?_⟩, fun en hen => ⟨fun _ => ?_, fun q => (by cases q)⟩⟩
      · -- all gone through
        have hseen : ∀ o, Pw w o → seenK seen o := fun o ho => by
          obtain ⟨v, hv⟩ := sl5.2.2 o ho
          obtain ⟨e, he, e1, _⟩ := entOk_of hent hv
          refine ⟨e, he, e1, ?_⟩
          cases hc : seen.contains e.born with
          | true => rfl
          | false =>
            have := leftOf_mem.2 ⟨he, hc⟩
            rw [Array.eq_empty_of_size_eq_zero hz] at this
            simp at this
        have D3 := hD3 hk5
        have hsl6 : Slp lb (Asl size bs.length xss (u ++ [(w : Int)])) := hk4.congr fun o => by
          rw [snoc_asl]
          constructor
          · rintro ⟨q1, q2⟩
            have hnd : bdE size bs.length xss (nextE u w) (nextE u o) = false := by
              cases hb : bdE size bs.length xss (nextE u w) (nextE u o) with
              | false => rfl
              | true => exact absurd ⟨hseen o q1, hb⟩ q2
            have hne : o ≠ w := fun q => by
              subst q
              exact y q1
            rcases (hPi w o).1 q1 with q | ⟨q, q'⟩
            · exact ⟨hne, q.1, hnd, .inr q.2⟩
            · exact ⟨hne, q', hnd, .inl q⟩
          · rintro ⟨q1, q2, q3, q4⟩
            refine ⟨(hPi w o).2 ?_, fun q => ?_⟩
            · rcases q4 with q4 | q4
              · exact .inr ⟨q4, q2⟩
              · exact .inl ⟨q2, q4⟩
            · have : bdE size bs.length xss (nextE u w) (nextE u o) = true := q.2
              rw [q3] at this; cases this
        refine D3.ldNx ⟨⟨Int.natCast_nonneg w, show (w : Int) < (nx.len : Int) by omega⟩, D3.own.arr.at (Int.natCast_nonneg w) (by omega) rfl fun y' hy' => ?_⟩
        rw [Int.toNat_natCast, cntL_at hwx] at hy'
        obtain rfl := Option.some.inj hy'
        have wc : w64 ((cnt u w : Int) + 1) = ((cnt u w + 1 : Nat) : Int) := by rw [w64_of] <;> omega
        rw [wc]
        refine ⟨⟨Int.natCast_nonneg w, show (w : Int) < (nx.len : Int) by omega⟩, D3.setNx hJe (i := w) (by rw [cntL_len]; exact hwx) fun h47 D4 x47 => ?_⟩
        rw [cntL_snoc] at D4
        refine D4.push hJe hJl (w := (w : Int)) (by omega) fun scr2 h55 D5 st55 => ?_
        have st47 : Step (fpD b nx scr1 S1) (fpD b nx scr1 S1) k2 h47 := ⟨x47.mono fun x q => .inr (.inl q), fun x q => .inl q⟩
        have hpre : ∀ x, fpD b nx scr1 S1 x → k2 x ≠ none := fun x hx => D3.live hJl hx
        have stA := st47.trans st55
        have hm6f : ¬ fpD b nx scr1 S1 m6 := fun q => D1.live hJl q hm6
        have hm6k : k2 m6 ≠ none := hk3.live
        have hm6f2 : ¬ fpD b nx scr2 S1 m6 := stA.off (T := fun x => x = m6) (fun x q => by rw [q]; exact hm6f) (fun x q => by rw [q]; exact hm6k) m6 rfl
        have hm5k : k2 m5 ≠ none := by rw [hk2]; exact fun q => by cases q
        have hm5f2 : ¬ fpD b nx scr2 S1 m5 := stA.off (T := fun x => x = m5) (fun x q => by rw [q]; exact nf5) (fun x q => by rw [q]; exact hm5k) m5 rfl
        have mi6' := hk3.ext stA.1 hm6f
        have mi5k : MapIs k2 m5 ki ki l5 := ⟨es, c, hk2, hent, hborn⟩
        have mi5' := mi5k.ext stA.1 nf5
        have hle2 : ∀ x, cnt (u ++ [(w : Int)]) x ≤ lensAt xss x := fun x => by
          rw [cnt_snoc]
          have := hle x
          by_cases q : x = w
          · subst q; rw [if_pos rfl]; omega
          · rw [if_neg q]; omega
        have hin2 : InR xss.length (u ++ [(w : Int)]) := fun p hp => by
          rcases List.mem_append.1 hp with hp | hp
          · exact hin p hp
          · have : p = (w : Int) := by simpa using hp
            rw [this]; omega
        have hflat := flat_len_le (nbC size bs.length xss n u) (4 ^ n) (List.range w) fun x _ => hClen x
        rw [List.length_range] at hflat
        have h3w : w * 4 ^ n ≤ 3 * 4 ^ n := Nat.mul_le_mul_right _ (by omega)
        have hpw : 4 ^ (n + 1) = 3 * 4 ^ n + 4 ^ n := by rw [Nat.pow_succ]; omega
        refine ih (u ++ [(w : Int)]) b nx scr2 S1 _ m6 lb h55 _ (by rw [List.length_append, List.length_singleton]; omega) hin2 hle2 (snoc_nb.2 ⟨hnb, hnZ⟩) D5 mi6' hsl6 hm6f2 (by rw [List.length_append]; omega) fun scr3 S3 h57 D7 st57 => ?_
        have stB := stA.trans st57
        have hsl3 := D7.scp.len
        rw [List.length_append, List.length_singleton] at hsl3
        have wl : w64 ((scr3.len : Int) - 1) = (u.length : Int) := by rw [w64_of] <;> omega
        refine D7.ldScr (D7.ldScr ?_)
        rw [wl, Int.toNat_natCast]
        have hcap := D7.scp.own.self
        refine ⟨⟨Int.natCast_nonneg _, show (u.length : Int) ≤ (scr3.cap : Int) by omega⟩, ?_⟩
        obtain ⟨nch, hch⟩ := D7.scp.chop (n := u.length) (by omega) (sz := 1)
        rw [List.take_left' rfl] at nch
        refine D7.putScr hJe nch (fun q => D7.b2 (hch b q)) (fun x a q => D7.s1 x a (hch x q)) (fun x q => D7.s3 x (hch x q)) fun h63 D8 x63 => ?_
        have st63 : Step (fpD b nx scr3 S3) (fpD b nx (scr3.cut 0 u.length 1) S3) h57 h63 := ⟨x63.mono fun x q => .inl q, fun x q => by
          rcases q with q | q | q | q
          · exact .inl (.inl q)
          · exact .inl (.inr (.inl q))
          · exact .inl (.inr (.inr (.inl (hch x q))))
          · exact .inl (.inr (.inr (.inr q)))⟩
        generalize hsc : scr3.cut 0 u.length 1 = scr4 at *
        have hnl8 := D8.own.len
        rw [cntL_len] at hnl8
        refine D8.ldNx ⟨⟨Int.natCast_nonneg w, show (w : Int) < (nx.len : Int) by omega⟩, D8.own.arr.at (Int.natCast_nonneg w) (by omega) rfl fun y' hy' => ?_⟩
        rw [Int.toNat_natCast, cntL_at hwx, cnt_snoc, if_pos rfl] at hy'
        obtain rfl := Option.some.inj hy'
        have wm : w64 (((cnt u w + 1 : Nat) : Int) - 1) = (cnt u w : Int) := by rw [w64_of] <;> omega
        rw [wm]
        refine ⟨⟨Int.natCast_nonneg w, show (w : Int) < (nx.len : Int) by omega⟩, D8.setNx hJe (i := w) (by rw [cntL_len]; exact hwx) fun h69 D9 x69 => ?_⟩
        rw [cntL_back] at D9
        have st69 : Step (fpD b nx scr4 S3) (fpD b nx scr4 S3) h63 h69 := ⟨x69.mono fun x q => .inr (.inl q), fun x q => .inl q⟩
        have stC := (stB.trans st63).trans st69
        refine ⟨fun q => (by cases q), fun _ => ?_⟩
        have hm5f4 : ¬ fpD b nx scr4 S3 m5 := stC.off (T := fun x => x = m5) (fun x q => by rw [q]; exact nf5) (fun x q => by rw [q]; exact hm5k) m5 rfl
        have mi59 := mi5k.ext stC.1 nf5
        refine ⟨l5, mi59, fun h70 q1 q2 => ?_⟩
        have x70 : Ext (fun x => x = m5) h69 h70 := ext_one mi59.live q2 q1.live
        have hm50 : h0 m5 = none := by
          cases e0 : h0 m5 with
          | none => rfl
          | some o =>
            have := D.base.none hm5
            rw [e0] at this; cases this
        have D10 := D9.ext hJe x70 (fun x hx q => by rw [q] at hx; exact hm5f4 hx) (fun x q => by rw [q]; exact hm50)
        refine hgo hwx _ _ (w64_up' (n := xss.length) hwx (by omega)) ⟨scr4, S3, _, ?_, ?_, q1, (sl5.put y).congr fun o => ?_, hm5f4, hovf⟩
        · rw [hpart, nbC_go hlt, ← List.append_assoc]; exact D10
        · -- from h to h70
          have stk : Step (fpD b nx scr1 S1) (fpD b nx scr1 S1) k k2 := by
            refine ⟨⟨fun x o ho hx => hk5.1 x o (le27 x o (le25 x o ho)) (fun q => ?_), fun x hx => le25.none (le27.none (hk5.2 x hx))⟩, fun x q => .inl q⟩
            rcases q with rfl | rfl
            · have := le25 _ _ ho; rw [hit] at this; cases this
            · rw [hm6] at ho; cases ho
          have stD := (st1.trans stk).trans stC
          refine ⟨⟨fun x o ho hx => ?_, fun x hx => stD.1.2 x (x70.2 x hx)⟩, fun x q => stD.2 x q⟩
          exact x70.1 x o (stD.1.1 x o ho hx) (fun q => by rw [q] at ho; rw [hm5] at ho; cases ho)
        · rw [hPi, hPi]
          constructor
          · rintro ((q | ⟨q, q'⟩) | rfl)
            · exact .inl q
            · exact .inr ⟨by omega, q'⟩
            · exact .inr ⟨by omega, hlt⟩
          · rintro (q | ⟨q, q'⟩)
            · exact .inl (.inl q)
            · rcases Nat.lt_or_ge o w with x | x
              · exact .inl (.inr ⟨x, q'⟩)
              · exact .inr (by omega)
      · -- one more
        obtain ⟨hen1, hen2⟩ := leftOf_mem.1 hen
        obtain ⟨p, hp, ek, ev'⟩ := entOk_ex hent hen1
        obtain ⟨o, hpo, hPo, _⟩ := sl5.2.1 p hp
        obtain ⟨pk, pv⟩ := p
        dsimp only at hpo ek ev'
        subst hpo
        have hk2n : (upd k2 it (.raw (.mapIter (some m5) c (seen.push en.born) c))) m5 = some (.map es c) := by rw [upd_ne _ _ nei5]; exact hk2
        refine ⟨m5, c, seen, es, c, en, (o : Int), pv, upd_same _ _ _, hk2n, hen1, hborn.1, ek, ev', ?_⟩
        have hkl : k2 it ≠ none := by rw [hk1]; exact fun q => by cases q
        have x32 : Ext (fun x => x = it) k2 (upd k2 it (.raw (.mapIter (some m5) c (seen.push en.born) c))) := ext_one hkl (fun x hx => upd_ne _ _ hx) (by rw [upd_same]; exact fun q => by cases q)
        have x5 : Ext (fun x => x = it ∨ x = m6) (upd h25 it (.raw (.mapIter (some m5) c #[] c))) (upd k2 it (.raw (.mapIter (some m5) c (seen.push en.born) c))) := hk5.trans (x32.mono fun x q => .inl q)
        have D3 := hD3 x5
        have hox : o < xss.length := hlao o (by
          rcases (hPi w o).1 hPo with q | q
          · exact q.1
          · exact q.2)
        have hlo : cnt u o < lensAt xss o := by
          rcases (hPi w o).1 hPo with q | q
          · exact q.1
          · exact q.2
        have hlow := hla o hox
        refine D3.ldSc (iA (act_specD D3 hr' hox (cntL_at hox) (show xss[o]? = some xss[o] by simp) (by omega) ⟨D3.seesSc, iD fun bb hbb => ?_⟩))
        have hne : o ≠ w := fun q => by subst q; exact y hPo
        have hdep : bb = true ↔ dep o := by
          show bb = true ↔ bdE size bs.length xss (nextE u w) (nextE u o) = true
          rw [bdE_sym, hbb]
          unfold bdE bdA gE nextE
          dsimp only
          rw [decide_eq_true_eq, Int.toNat_natCast, Int.toNat_natCast, hbg]
          constructor
          · exact .inr
          · exact fun q => q.resolve_left (fun q2 => hne (by have q2 : (o : Int) = (w : Int) := q2; omega))
        have hmeas : ∀ (k4 : Heap), k4 it = some (.raw (.mapIter (some m5) c (seen.push en.born) c)) → (match k4 it with | some (.raw (.mapIter _ _ seen _)) => (leftOf es seen).size | _ => 0) < (match k2 it with | some (.raw (.mapIter _ _ seen _)) => (leftOf es seen).size | _ => 0) := fun k4 hk4 => by
          rw [hk4, hk1]
          exact leftOf_push hen
        have hseen' : ∀ o', seenK (seen.push en.born) o' ↔ seenK seen o' ∨ o' = o := fun o' => by
          constructor
          · rintro ⟨e, he, e1, e2⟩
            rw [Array.contains_push, Bool.or_eq_true] at e2
            rcases e2 with e2 | e2
            · exact .inl ⟨e, he, e1, e2⟩
            · right
              have hbe : e.born = en.born := by simpa using e2
              have hee : e = en := by
                have h1 := find_born e es.toList hborn.1 he
                have h2 := find_born en es.toList hborn.1 hen1
                rw [hbe, h2] at h1
                exact (Option.some.inj h1).symm
              rw [hee, ek] at e1
              have e1 : Value.int .i64 (o : Int) = Value.int .i64 (o' : Int) := e1
              injection e1 with _ e1
              omega
          · rintro (⟨e, he, e1, e2⟩ | rfl)
            · exact ⟨e, he, e1, by rw [Array.contains_push, e2]; rfl⟩
            · exact ⟨en, hen1, ek, by rw [Array.contains_push]; simp⟩
        have mk3 : MapIs (upd k2 it (.raw (.mapIter (some m5) c (seen.push en.born) c))) m6 ki ki lb := hk3.ext x32 nei6
        refine bcs (fun z => ?_) (fun z => ?_)
        · have z := hdep.1 z
          refine ⟨lb, mk3, fun h41 q1 q2 => ⟨⟨seen.push en.born, _, by rw [q2 it (fun q => nei6 q.symm)]; exact upd_same _ _ _, by rw [q2 m5 ne65]; exact hk2n, q1, (hk4.del o).congr fun o' => ?_, x5.trans ((ext_one mk3.live q2 q1.live).mono fun x q => .inr q)⟩, hmeas _ (by rw [q2 it (fun q => nei6 q.symm)]; exact upd_same _ _ _)⟩⟩
          rw [hseen']
          constructor
          · rintro ⟨⟨q3, q4⟩, q5⟩
            refine ⟨q3, fun ⟨q6, q7⟩ => ?_⟩
            rcases q6 with q6 | q6
            · exact q4 ⟨q6, q7⟩
            · exact q5 q6
          · rintro ⟨q3, q4⟩
            exact ⟨⟨q3, fun ⟨q6, q7⟩ => q4 ⟨.inl q6, q7⟩⟩, fun q6 => q4 ⟨.inr q6, by rw [q6]; exact z⟩⟩
        · have z : ¬ dep o := fun q => by rw [hdep.2 q] at z; cases z
          refine ⟨⟨seen.push en.born, lb, upd_same _ _ _, hk2n, mk3, hk4.congr fun o' => ?_, x5⟩, hmeas _ (upd_same _ _ _)⟩
          rw [hseen']
          constructor
          · rintro ⟨q3, q4⟩
            refine ⟨q3, fun ⟨q6, q7⟩ => ?_⟩
            rcases q6 with q6 | q6
            · exact q4 ⟨q6, q7⟩
            · exact z (by rw [← q6]; exact q7)
          · rintro ⟨q3, q4⟩
            exact ⟨q3, fun ⟨q6, q7⟩ => q4 ⟨.inl q6, q7⟩⟩
    · have e : ¬ (w : Int) < (lsl.len : Int) := e
      obtain rfl : w = xss.length := by omega
      have hnot : ov = false := by
        cases ho : ov with
        | false => rfl
        | true =>
          exfalso
          have hall := hov.1 ho
          have := (all_done hin hle).2 fun w hw => by have := hall w hw; have := hle w; omega
          omega
      refine ⟨fun _ => hQ scr1 S1 k (by rw [nbL_succ]; exact D1) st1, fun z => ?_⟩
      have z : (!ov) = false := z
      rw [hnot] at z; cases z
end
end Go.Mx
