/-
  ExploreAll: the reference's Explore.
  ExploreAll: both Explores.
-/
import Derived.Test.YtipihecaaakagaaMxKp
import Derived.Test.YtipihecaaakagaaMxKr
import Derived.Laws.Externs
set_option linter.unusedVariables false
set_option linter.unusedSimpArgs false
set_option linter.unusedSectionVars false
namespace Go.Mx

theorem toNat_range {x : Int} {n : Nat} (h : 0 ≤ x ∧ x < (n : Int)) : x.toNat < n ∧ ((x.toNat : Nat) : Int) = x := by omega
theorem no_neg {x : Int} {k : Nat} (h : x = (k : Int)) (z : x < 0) : False := by omega
theorem no_pos {x : Int} (h : x = -1) (z : ¬ x < 0) : False := by omega
theorem leastR_succ {bd : Rc → Rc → Bool} {nA n m : Nat} {l : List Rc} (hm : m = n + 1) {w k : Nat} (hw : (List.range nA).find? (fun w : Nat => (firstR bd (w : Int) l).isSome) = some w) (hk : firstR bd (w : Int) l = some k) : leastR bd nA m l = (w : Int) :: leastR bd nA n (l.eraseIdx k) := by
  subst hm
  show (match (List.range nA).find? fun w : Nat => (firstR bd (w : Int) l).isSome with
    | none => []
    | some w => (w : Int) :: leastR bd nA n (l.eraseIdx ((firstR bd (w : Int) l).getD 0))) = _
  rw [hw]
  show (w : Int) :: leastR bd nA n (l.eraseIdx ((firstR bd (w : Int) l).getD 0)) = _
  rw [hk]; rfl
theorem Arr.two2 {h : Heap} {s t : Sl} {xs ys : List Int} (c : Arr h ki s xs) (d : Arr h ki t ys) {i j : Int} (i0 : 0 ≤ i) (i1 : i < (s.len : Int)) (j0 : 0 ≤ j) (j1 : j < (t.len : Int)) {K : Int → Int → Prop} (hK : ∀ x y, xs[i.toNat]? = some x → ys[j.toNat]? = some y → K x y) :
    (0 ≤ i ∧ i < (s.len : Int)) ∧ deref s.a fun a => (0 ≤ j ∧ j < (t.len : Int)) ∧ deref t.a fun b => ld ki h (a.add (i.toNat * 1)) fun x => ld ki h (b.add (j.toNat * 1)) fun y => K x y := by
  obtain ⟨a, ha⟩ := c.addr (by omega)
  obtain ⟨b, hb⟩ := d.addr (by omega)
  have hx : i.toNat < xs.length := by have := c.1; omega
  have hy : j.toNat < ys.length := by have := d.1; omega
  refine ⟨⟨i0, i1⟩, ?_⟩
  rw [ha, hb]
  refine ⟨⟨j0, j1⟩, c.ldAt (k := ki) ha (List.getElem?_eq_getElem hx) rfl (d.ldAt (k := ki) hb (List.getElem?_eq_getElem hy) rfl (hK _ _ (List.getElem?_eq_getElem hx) (List.getElem?_eq_getElem hy)))⟩
end Go.Mx

namespace Go.Mx

theorem run_mclone {P : Program} {w : World} {b : Nat} {es : Array MapEntry} {c : Nat} (ty : TypeId) (hb : w.heap[b]? = some (.map es c)) :
    (Extern.MapsClone.clone #[.iface ty (.map (some b))]).run P w = .ok (.iface ty (.map (some w.heap.size))) (w.alloc (.map es c)) := by
  have e : Extern.MapsClone.clone #[.iface ty (.map (some b))] = (getObj b >>= fun o => match o with
      | .map entries clock => (newObj (.map entries clock) >>= fun n => pure (.iface ty (.map (some n))))
      | _ => stuck "maps.clone: a map expected") := rfl
  rw [e]
  simp only [Sem.run_bind, run_getObj_some hb rfl, Result.andThen_ok, run_newObj, Sem.run_pure]
  rfl
theorem mcloneT {P : Program} {f : FuncId} {fn : Func} (hf : P.funcs[f]? = some fn) (hname : (fn.name == "runtime.NumGoroutine") = false) (hb : fn.body.isNone = true) (hn : Extern.findNext fn = none) (he : Extern.find fn = some Extern.MapsClone.clone)
    (ty : TypeId) {b : Nat} {h : Heap} {es : Array MapEntry} {c : Nat} {Q : Value → Heap → Prop} (hm : h b = some (.map es c)) (hK : ∀ b', h b' = none → Q (Value.iface ty (.map (some b'))) (upd h b' (.map es c))) :
    ExtT P f [Kd.val .iface (Value.iface ty (.map (some b)))] false .iface h Q := fun w hw => by
  refine ⟨Value.iface ty (.map (some w.heap.size)), _, w.alloc (.map es c), ?_, (Inv.refl hw).new (o := .map es c) (x := .map es c) rfl, hK _ (none_of_size hw)⟩
  rw [run_callFunc_extern hf hname hb hn he]
  show ((Extern.MapsClone.clone #[.iface ty (.map (some b))]).run P w).andThen _ = _
  rw [run_mclone ty (map_world hw hm)]
  rfl
def expP (sz len : Int) (xss : List (List Ac)) (e : Int) : List (List Int) := if e = 0 then expS sz len xss else []
theorem expS_small {sz : Int} {nb : Nat} {len : Int} {xss : List (List Ac)} (hs : xss.length ≤ 1048576) (h2 : ∀ xs ∈ xss, xs.length ≤ 1048576) {e : Int} (he : e = chkE sz nb xss) : (expP sz len xss e).length ≤ 1048576 ∧ ∀ z ∈ expP sz len xss e, z.length ≤ 1048576 := by
  unfold expP
  by_cases d : e = 0
  · rw [if_pos d]
    rw [d] at he
    obtain ⟨_, _, _, h4, ha, _⟩ := chkE_ok he.symm
    rw [actsE_sum hs h2] at ha
    have hl := allS_len h4 (by omega : (xss.map List.length).sum ≤ 10)
    refine ⟨Nat.le_trans (List.length_filter_le _ _) hl, fun z hz => ?_⟩
    have hS := allS_mem.1 (List.mem_filter.1 hz).1
    have := hS.len
    omega
  · rw [if_neg d]
    exact ⟨Nat.zero_le _, fun z hz => by cases hz⟩

theorem clonei_spec' {s : Sl} {h : Heap} {xs : List Int} (ha : Arr h ki s xs) (hn : s.len ≤ 2097152) {Q : Sl → Heap → Prop} (hQ : ∀ r h', New h h' ki r xs → Q r h') : slices_Clone_int_int.M s h Q := by
  refine ⟨fun e => ?_, fun e => ?_⟩
  · obtain ⟨a, n, c⟩ := s
    cases a with
    | some a => cases e
    | none =>
      have h1 : xs.length = n := ha.1
      have h2 : n = 0 := ha.2.2
      have : xs = [] := List.length_eq_zero_iff.1 (by omega)
      subst this
      exact hQ _ h (New.nil h ki)
  · refine New.mk0 fun p h4 n4 => ?_
    refine n4.apps (ha.le n4.le) rfl rfl (by show (0 + s.len) * 8 ≤ _; omega) fun t h6 n6 => ?_
    rw [List.nil_append] at n6
    exact hQ t h6 n6
theorem rowP_in {xss : List (List Ac)} {q : List Int} (hS : ScriptP (xss.map List.length) q) : ∀ a ∈ rowP xss q q.length, 0 ≤ a.1 ∧ a.1 < (xss.length : Int) := fun a ha => by
  have hin := hS.1
  rw [List.length_map] at hin
  unfold rowP at ha
  obtain ⟨j, hj, rfl⟩ := List.mem_map.1 ha
  have hj := List.mem_range.1 hj
  show 0 ≤ (q[j]?).getD 0 ∧ (q[j]?).getD 0 < _
  rw [List.getElem?_eq_getElem hj]
  exact hin _ (List.getElem_mem hj)
theorem Own.sub {h h' : Heap} {k : Kd} {s : Sl} {ys : List (Den k)} (o : Own h k s ys) (e : ∀ b, blkOf s b → h' b = h b) : Own h' k s ys := by
  rcases o with o | ⟨b, ha, h1, h2, z, hz, hb⟩
  · exact .inl o
  · exact .inr ⟨b, ha, h1, h2, z, hz, by rw [e b ⟨_, ha, rfl⟩]; exact hb⟩
theorem Nest.sub {h0 h h' : Heap} {k : Kd} {o : Sl} {els : List Sl} {xss : List (List (Den k))} (n : Nest h0 h k o els xss) (e : ∀ x, fpN o els x → h' x = h x) (l : Go.Mx.le h0 h') : Nest h0 h' k o els xss :=
  ⟨⟨n.out.own.sub fun b q => e b (.inl q), n.out.len, l, n.out.new⟩, n.len, fun i sl xs a b => by
    have q := n.row i sl xs a b
    exact ⟨q.own.sub fun c hc => e c (.inr ⟨sl, List.mem_of_getElem? a, hc⟩), q.len, l, q.new⟩, n.sep⟩

section
variable {h : Heap} {s : Sc} {bs : List Int} {xss : List (List Ac)} (r : ScR h s bs xss) (hs : Small bs xss)
  {cK : Sc → Heap → (Int → Heap → Prop) → Prop} {cT : Sc → Heap → (Value → Heap → Prop) → Prop} {cR : Value → Value → Heap → (Unit → Heap → Prop) → Prop} {fv : Option Addr → Value}
  {cC : Option Nat → Heap → (Option Nat → Heap → Prop) → Prop} {cA : Option Addr → Int → Heap → (Ac → Heap → Prop) → Prop} {cD : Sc → Ac → Ac → Heap → (Bool → Heap → Prop) → Prop}
  {F : Option Addr → Option Nat → Value → Heap → (Bool → Heap → Prop) → Prop} {cS : Sl → Heap → (Sl → Heap → Prop) → Prop} {cY : Value → Sl → Heap → (Bool → Heap → Prop) → Prop}
  (i1 : ∀ {Q : Int → Heap → Prop}, Q (chkE s.1 bs.length xss) h → cK s h Q)
  (iT : ∀ {k : Heap} {Q : Value → Heap → Prop}, (∀ p k', k p = none → Obj k' p kapiScene s → le k k' → Q (fv (some (ptr p))) k') → cT s k Q)
  (iR : ∀ {p : Nat} {y : Value} {k : Heap} {Q : Unit → Heap → Prop}, explore_traces_1.M F y (some (ptr p)) k Q → cR (fv (some (ptr p))) y k Q)
  (iC : ∀ {m : Nat} {h : Heap} {l : List (Int × Int)} {Q : Option Nat → Heap → Prop}, MapIs h m ki ki l → (∀ m' h', h m' = none → MapIs h' m' ki ki l → le h h' → Q (some m') h') → cC (some m) h Q)
  (iA : ∀ {p i h Q}, explore_walk_act.M p i h Q → cA p i h Q)
  (iD : ∀ {x y : Ac} {h : Heap} {Q : Bool → Heap → Prop}, (∀ b : Bool, (b = true ↔ DepI s.1 (s.2.1.len : Int) x.2.1 x.2.2.1 x.2.2.2.1 y.2.1 y.2.2.1 y.2.2.2.1) → Q b h) → cD s x y h Q)
  (jF : ∀ {p m y h Q}, explore_walk_down.M cC cA cD F cS cY p m y h Q → F p m y h Q)
  (iS : ∀ {t : Sl} {h : Heap} {xs : List Int} {Q : Sl → Heap → Prop}, Arr h ki t xs → t.len ≤ 2097152 → (∀ r h', New h h' ki r xs → Q r h') → cS t h Q)
include r hs iC iA iD jF iS
/-- The scripts are told to someone. -/
theorem traces_spec {J : List (List Int) → (Nat → Prop) → Heap → Prop} (hJe : ∀ d S k T k', J d S k → Ext T k k' → (∀ x, S x → ¬ T x) → (∀ x, T x → h x = none) → J d S k') (hJl : ∀ d S h x, J d S h → S x → h x ≠ none) (hc : chkE s.1 bs.length xss = 0)
    {yv : Value} (hy : ∀ {d : List (List Int)} {S : Nat → Prop} {k : Heap} {sl : Sl} {q : List Int} {K : Bool → Heap → Prop}, J d S k → New h k ki sl q → (∀ x, blkOf sl x → ¬ S x) → (∀ x, S x → h x = none) → d.length ≤ 2000000 → ScriptP (xss.map List.length) q →
      (∀ S' h', J (d ++ [q]) S' h' → Step (fun x => S x ∨ blkOf sl x) S' k h' → K true h') → cY yv sl k K)
    {p : Nat} {k : Heap} {S : Nat → Prop} (ob : Obj k p kapiScene s) (l : le h k) (hJ : J [] S k) (sf : ∀ x, S x → h x = none) {Q : Unit → Heap → Prop}
    (hQ : ∀ S' h', J (expS s.1 bs.length xss) S' h' → le h h' → (∀ x, S' x → h x = none) → Q () h') : explore_traces_1.M F yv (some (ptr p)) k Q := by
  obtain ⟨_, _, _, hx4, ha, _⟩ := chkE_ok hc
  rw [actsE_sum hs.2.1 hs.2.2] at ha
  have hsum : (xss.map List.length).sum ≤ 10 := by omega
  have hls := r.lists
  have e0 : (ptr p).add 0 = ptr p := rfl
  refine (e0 ▸ ob.ld (k := kapiScene) (kf := kapiScene) (y := s) (off := 0) ⟨[], [], by simp, rfl⟩ ?_ : ld kapiScene k (ptr p) _)
  refine ob.ld (k := kapiScene) (kf := .sl) (y := s.2.2.1) (off := 2) ⟨(Kd.cells kapiScene s).take 2, [], rfl, rfl⟩ ?_
  refine make_new (k := ki) (by omega) (Int.le_refl _) (by show ((8 : Nat) : Int) * (s.2.2.1.len : Int) ≤ _; omega) (by omega) fun nx h9 n9 l9 _ _ => ?_
  rw [Int.toNat_natCast, hls] at n9
  have hcz : List.replicate xss.length (Kd.zero ki) = cntL xss.length [] := by
    apply List.ext_getElem
    · simp [cntL]
    · intro i _ _; simp [cntL, cnt, Kd.zero]
  rw [hcz] at n9
  refine Obj.new (k := kexplorewalk) (x := (s, (nx, (Sl.none, ())))) fun b h11 hb ob11 l11 => ?_
  refine fun m12 hm12 => ?_
  have l13 : le h11 (upd h11 m12 (.map #[] 0)) := le_upd hm12 _
  have lk : le k (upd h11 m12 (.map #[] 0)) := (n9.le.trans l11).trans l13
  have hbk : k b = none := n9.le.none hb
  have hSk : ∀ x, S x → k x ≠ none := fun x hx => hJl _ _ _ _ hJ hx
  have D : DW J h (upd h11 m12 (.map #[] 0)) s b nx ⟨none, 0, 0⟩ (cntL xss.length []) [] S [] :=
    ⟨ob11.le l13, ((n9.base l).more l11).more l13, New.none (l.trans lk) _, hJe _ _ _ (fun _ => False) _ hJ lk.toExt (fun _ _ => id) (fun _ q => q.elim), l.none hbk, sf, fun q => n9.own.live b q hb, no_blk, fun q => hSk b q hbk, fun x _ q => no_blk q, fun x q hx => hSk x hx (n9.new x q), fun x q => absurd q no_blk⟩
  have hm5 : MapIs (upd h11 m12 (.map #[] 0)) m12 ki ki [] := ⟨#[], 0, upd_same _ _ _, rfl, List.nodup_nil, fun x hx => (by cases hx)⟩
  refine down_spec hJe hJl r hx4 hsum iC iA iD jF iS hy (xss.map List.length).sum [] b nx ⟨none, 0, 0⟩ S [] m12 [] _ _ (by simp) (fun q hq => by cases hq) (fun w => Nat.zero_le _) trivial D hm5 (Slp.nil.congr fun o => ⟨fun q => q.elim, fun q => ?_⟩) (fun q => ?_) ?_ fun scr' S' h' D' st' => ?_
  · obtain ⟨_, u1, y, u2, q2, _⟩ := q
    cases u1 <;> cases q2
  · rcases q with q | q | q | q
    · rw [q] at hm12; rw [ob11] at hm12; cases hm12
    · exact (n9.more l11).own.live m12 q hm12
    · exact no_blk q
    · exact hSk m12 q ((n9.le.trans l11).none hm12)
  · have h2 : 4 ^ (xss.map List.length).sum ≤ 4 ^ 10 := Nat.pow_le_pow_right (by omega) (by omega)
    have h3 : (4 : Nat) ^ 10 = 1048576 := by decide
    rw [List.length_nil]; omega
  · exact hQ S' h' D'.con D'.base D'.sf
include i1 iT iR
theorem explore_spec {Q : (Sl × (Int × Unit)) → Heap → Prop} (hQ : ∀ o h', FoR h h' o (expP s.1 bs.length xss (chkE s.1 bs.length xss)) → Q (o, (chkE s.1 bs.length xss, ())) h') : explore_Explore.M cK cT cY cR s h Q := by
  refine i1 ⟨fun d => ?_, fun d => ?_⟩
  · have d : chkE s.1 bs.length xss ≠ 0 := of_decide_eq_true d
    refine hQ _ h ⟨[], ?_⟩
    unfold expP; rw [if_neg d]; exact Nest.nil h ki
  have d : ¬ chkE s.1 bs.length xss ≠ 0 := of_decide_eq_false d
  have hc : chkE s.1 bs.length xss = 0 := Decidable.not_not.1 d
  rw [hc] at hQ
  have hQ' : ∀ o h', FoR h h' o (expS s.1 bs.length xss) → Q (o, (0, ())) h' := fun o h' f => hQ o h' (by unfold expP; rw [if_pos rfl]; exact f)
  refine Obj.new (k := .sl) (x := (Kd.zero .sl)) fun b h6 hb ob6 l6 => ?_
  refine iT fun p h8 hp ob8 l8 => ?_
  intro l9 d10 L11 hl9 hd10 hne hround
  have hbl : h8 b ≠ none := (ob6.le l8).live
  have hbn9 : b ≠ l9 := fun q => hbl (by rw [q]; exact hl9)
  have hbn10 : b ≠ d10 := fun q => hbl (by rw [q]; exact hd10)
  have l68 := l6.trans l8
  have h09 : h l9 = none := l68.none hl9
  have h010 : h d10 = none := l68.none hd10
  let hE := upd (upd h8 d10 (.raw (.deferred (some [])))) l9 (.raw (L11 false))
  have lE : le h8 hE := (le_upd hd10 _).trans (le_upd (by rw [upd_ne _ _ hne]; exact hl9) _)
  let J : List (List Int) → (Nat → Prop) → Heap → Prop := fun dd S k => ∃ lst els, Obj k b .sl lst ∧ Nest h k ki lst els dd ∧ k l9 = some (.raw (L11 false)) ∧ k d10 = some (.raw (.deferred (some []))) ∧ (∀ x, S x ↔ (x = b ∨ x = l9 ∨ x = d10 ∨ fpN lst els x)) ∧ ∀ x, fpN lst els x → x ≠ b ∧ x ≠ l9 ∧ x ≠ d10
  refine iR (traces_spec (J := J) r hs iC iA iD jF iS ?_ ?_ hc ?_ (S := fun x => x = b ∨ x = l9 ∨ x = d10) (ob8.le lE) (l68.trans lE) ?_ ?_ ?_)
  · rintro dd S k T k' ⟨lst, els, j1, j2, j3, j4, j5, j6⟩ e n f
    exact ⟨lst, els, j1.ext e (n b ((j5 b).2 (.inl rfl))), j2.ext e (fun x hx => n x ((j5 x).2 (.inr (.inr (.inr hx))))) f, e.1 _ _ j3 (n l9 ((j5 l9).2 (.inr (.inl rfl)))), e.1 _ _ j4 (n d10 ((j5 d10).2 (.inr (.inr (.inl rfl))))), j5, j6⟩
  · rintro dd S k x ⟨lst, els, j1, j2, j3, j4, j5, j6⟩ hx
    rcases (j5 x).1 hx with rfl | rfl | rfl | hx
    · exact j1.live
    · rw [j3]; exact fun q => by cases q
    · rw [j4]; exact fun q => by cases q
    · exact j2.live hx
  · -- one more script
    rintro dd S k sl q K ⟨lst, els, j1, j2, j3, j4, j5, j6⟩ nsl ap sf hdl _ hK
    have hbs : ¬ blkOf sl b := fun q => ap b q ((j5 b).2 (.inl rfl))
    have hls : ¬ blkOf sl l9 := fun q => ap l9 q ((j5 l9).2 (.inr (.inl rfl)))
    have hds : ¬ blkOf sl d10 := fun q => ap d10 q ((j5 d10).2 (.inr (.inr (.inl rfl))))
    have hns : ∀ x, blkOf sl x → ¬ fpN lst els x := fun x q hx => ap x q ((j5 x).2 (.inr (.inr (.inr hx))))
    refine hround sl k K j3 ⟨j3, ?_⟩
    have xU : Ext (fun x => x = l9) k (upd k l9 (.raw (L11 true))) := ext_one (by rw [j3]; exact fun q => by cases q) (fun c hc => upd_ne _ _ hc) (by rw [upd_same]; exact fun q => by cases q)
    have jU := j1.ext xU hbn9
    have nU := j2.ext xU (fun x hx => (j6 x hx).2.1) (fun x hx => by rw [hx]; exact h09)
    have slU := nsl.ext xU (fun x hx q => hls (by rw [← q]; exact hx)) (fun x hx => by rw [hx]; exact h09)
    refine jU.ld (k := .sl) (kf := .sl) (y := lst) (off := 0) ⟨[], [], by simp, rfl⟩ ?_
    have hol := nU.out.len
    have hel := nU.len
    refine nU.snoc slU hns (by omega) fun lst' h19 n19 x19 b19 => ?_
    have hbl' : ¬ blkOf lst b := fun q => (j6 b (.inl q)).1 rfl
    have hll' : ¬ blkOf lst l9 := fun q => (j6 l9 (.inl q)).2.1 rfl
    have hdl' : ¬ blkOf lst d10 := fun q => (j6 d10 (.inl q)).2.2 rfl
    have j19 := jU.ext x19 hbl'
    refine j19.st (k := .sl) (kf := .sl) (x' := lst') (off := 0) rfl (by decide) rfl fun h20 ob20 x20 => ?_
    have dU : (upd k l9 (.raw (L11 true))) d10 = some (.raw (.deferred (some []))) := by rw [upd_ne _ _ (fun q => hne q.symm)]; exact j4
    have lU : (upd k l9 (.raw (L11 true))) l9 = some (.raw (L11 true)) := upd_same _ _ _
    have l20 : h20 l9 = some (.raw (L11 true)) := x20.1 _ _ (x19.1 _ _ lU hll') (fun q => hbn9 q.symm)
    have d20 : h20 d10 = some (.raw (.deferred (some []))) := x20.1 _ _ (x19.1 _ _ dU hdl') (fun q => hbn10 q.symm)
    have fp19 : ∀ x, fpN lst' (els ++ [sl]) x → x ≠ b ∧ x ≠ l9 ∧ x ≠ d10 := fun x hx => by
      rcases hx with hx | ⟨t, ht, hx⟩
      · rcases b19 x hx with q | q
        · exact j6 x (.inl q)
        · refine ⟨fun z => ?_, fun z => ?_, fun z => ?_⟩
          · rw [z] at q; exact jU.live q
          · rw [z, lU] at q; cases q
          · rw [z, dU] at q; cases q
      · rcases List.mem_append.1 ht with ht | ht
        · exact j6 x (.inr ⟨t, ht, hx⟩)
        · have : t = sl := by simpa using ht
          subst this
          exact ⟨fun z => hbs (by rw [← z]; exact hx), fun z => hls (by rw [← z]; exact hx), fun z => hds (by rw [← z]; exact hx)⟩
    have n20 := n19.ext x20 (fun x hx z => (fp19 x hx).1 z) (fun x z => by rw [z]; exact hb)
    refine ⟨l20, ?_⟩
    have xF : Ext (fun x => x = l9) h20 (upd h20 l9 (.raw (L11 false))) := ext_one (by rw [l20]; exact fun q => by cases q) (fun c hc => upd_ne _ _ hc) (by rw [upd_same]; exact fun q => by cases q)
    have nF := n20.ext xF (fun x hx => (fp19 x hx).2.1) (fun x hx => by rw [hx]; exact h09)
    refine hK (fun x => x = b ∨ x = l9 ∨ x = d10 ∨ fpN lst' (els ++ [sl]) x) _ ⟨lst', els ++ [sl], ob20.ext xF hbn9, nF, upd_same _ _ _, by rw [upd_ne _ _ (fun q => hne q.symm)]; exact d20, fun x => Iff.rfl, fp19⟩ ⟨?_, fun x hx => ?_⟩
    · refine (((xU.mono fun x q => ?_).trans (x19.mono fun x q => ?_)).trans (x20.mono fun x q => ?_)).trans (xF.mono fun x q => ?_)
      · exact .inl ((j5 x).2 (.inr (.inl q)))
      · exact .inl ((j5 x).2 (.inr (.inr (.inr (.inl q)))))
      · exact .inl ((j5 x).2 (.inl q))
      · exact .inl ((j5 x).2 (.inr (.inl q)))
    · rcases hx with hx | hx | hx | hx
      · exact .inl (.inl ((j5 x).2 (.inl hx)))
      · exact .inl (.inl ((j5 x).2 (.inr (.inl hx))))
      · exact .inl (.inl ((j5 x).2 (.inr (.inr (.inl hx)))))
      · rcases hx with hx | ⟨t, ht, hx⟩
        · rcases b19 x hx with q | q
          · exact .inl (.inl ((j5 x).2 (.inr (.inr (.inr (.inl q))))))
          · exact .inr (xU.2 x q)
        · rcases List.mem_append.1 ht with ht | ht
          · exact .inl (.inl ((j5 x).2 (.inr (.inr (.inr (.inr ⟨t, ht, hx⟩))))))
          · have : t = sl := by simpa using ht
            subst this
            exact .inl (.inr hx)
  · have nE := (Nest.nil h ki).more (l68.trans lE)
    exact ⟨⟨none, 0, 0⟩, [], ob6.le (l8.trans lE), nE, upd_same _ _ _, by show upd (upd h8 d10 _) l9 _ d10 = _; rw [upd_ne _ _ (fun q => hne q.symm)]; exact upd_same _ _ _, fun x => ⟨fun q => by
      rcases q with q | q | q
      · exact .inl q
      · exact .inr (.inl q)
      · exact .inr (.inr (.inl q)), fun q => by
      rcases q with q | q | q | q
      · exact .inl q
      · exact .inr (.inl q)
      · exact .inr (.inr q)
      · rcases q with q | ⟨t, ht, _⟩
        · exact absurd q no_blk
        · cases ht⟩, fun x hx => by
      rcases hx with q | ⟨t, ht, _⟩
      · exact absurd q no_blk
      · cases ht⟩
  · rintro x (rfl | rfl | rfl)
    · exact hb
    · exact h09
    · exact h010
  · rintro S' h21 ⟨lst, els, j1, j2, j3, j4, j5, j6⟩ l21 sf
    refine ⟨j3, j4, ?_⟩
    have obD : Obj (drop2 h21 l9 d10) b .sl lst := by show drop2 h21 l9 d10 b = _; rw [drop2_ne hbn9 hbn10]; exact j1
    have lD : le h (drop2 h21 l9 d10) := fun x o ho => by
      rw [drop2_ne (fun q => by rw [q, h09] at ho; cases ho) (fun q => by rw [q, h010] at ho; cases ho)]
      exact l21 x o ho
    refine obD.ld (k := .sl) (kf := .sl) (y := lst) (off := 0) ⟨[], [], by simp, rfl⟩ ?_
    exact hQ' lst _ ⟨els, j2.sub (fun x hx => drop2_ne (j6 x hx).2.1 (j6 x hx).2.2) lD⟩
end
end Go.Mx
