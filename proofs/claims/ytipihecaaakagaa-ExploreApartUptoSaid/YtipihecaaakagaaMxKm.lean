/-
  How many scripts are alike: the walk of the program's Kin.
  All scripts, in order: the reference's Scripts and Kin.
  ExploreKin: the reference's count, and the law.
-/
import Derived.Test.YtipihecaaakagaaMxKk
set_option linter.unusedVariables false
set_option linter.unusedSimpArgs false
set_option linter.unusedSectionVars false
namespace Go.Mx

def rowB (bd : Ev → Ev → Bool) (ps : List Int) (e : Ev) : Den ka4 := fun w => (bfE bd ps e (w.val : Int) : Int)
def kRow (bd : Ev → Ev → Bool) (ps : List Int) (i o : Nat) : List (Den ka4) := (List.range (cnt (ps.take i) o)).map fun k => rowB bd ps ((o : Int), k)
def kRows (bd : Ev → Ev → Bool) (ps : List Int) (nA i : Nat) : List (List (Den ka4)) := (List.range nA).map (kRow bd ps i)
theorem kRows_zero (bd : Ev → Ev → Bool) (ps : List Int) (nA : Nat) : kRows bd ps nA 0 = List.replicate nA [] := by
  apply List.ext_getElem
  · simp [kRows]
  · intro i _ _
    simp [kRows, kRow, cnt]
theorem kRows_at {bd : Ev → Ev → Bool} {ps : List Int} {nA i x : Nat} (h : x < (kRows bd ps nA i).length) : (kRows bd ps nA i)[x] = kRow bd ps i x := by simp [kRows]
theorem rowB_at (bd : Ev → Ev → Bool) (ps : List Int) (e : Ev) {w : Nat} (h : w < 4) : ag4 (rowB bd ps e) w = (bfE bd ps e (w : Int) : Int) := by
  unfold ag4 aget; rw [dif_pos h]; rfl
theorem evL_at {ps : List Int} {i : Nat} (h : i < ps.length) : (evL ps)[i]? = some (ps[i], cnt (ps.take i) ps[i].toNat) := by
  rw [evL_get, if_pos h]
  simp [h]
theorem sumN_cnt {n : Nat} {ps : List Int} (h : InR n ps) : sumN n (cnt ps) = ps.length := cnt_sum n ps h
theorem ka4_ext {f g : Den ka4} (h : ∀ w, w < 4 → ag4 f w = ag4 g w) : f = g := by
  funext i
  have := h i.val i.isLt
  unfold ag4 aget at this
  rw [dif_pos i.isLt, dif_pos i.isLt] at this
  exact this
theorem ag4_set (f : Den ka4) {i j : Nat} {v : Int} (hj : j < 4) : ag4 (aset (n := 4) (a := ki) f i v) j = if j = i then v else ag4 f j := aget_set hj

theorem bnd4 {x : Int} {v : Nat} (h : x = (v : Int)) (hv : v < 4) : 0 ≤ x ∧ x < (4 : Int) := by omega
theorem bndN {x : Int} {v n : Nat} (h : x = (v : Int)) (hv : v < n) : 0 ≤ x ∧ x < (n : Int) := by omega
/-- The value of Kin. -/
def kinP (sz len : Int) (xss : List (List Ac)) (ps : List Int) (e : Int) : Int := if e = 0 then (waysN (bfE (bdE sz len xss) ps) xss.length ps.length (cnt ps) : Int) else 0

section
variable {h : Heap} {s : Sc} {t : Sl} {bs ps : List Int} {xss : List (List Ac)} (r : ScR h s bs xss) (hs : Small bs xss)
  {c1 : Sc → Sl → Heap → (Int → Heap → Prop) → Prop} {c2 : Sc → Sl → Heap → (Sl → Heap → Prop) → Prop} {cD : Sc → Ac → Ac → Heap → (Bool → Heap → Prop) → Prop} {cW : Sl → (Fin 4 → Int) → Option Nat → Heap → (Int → Heap → Prop) → Prop}
  (i1 : ∀ {Q : Int → Heap → Prop}, (∀ e h', Rdy s.1 bs.length xss ps e → le h h' → Q e h') → c1 s t h Q)
  (i2 : ∀ {k : Heap} {Q : Sl → Heap → Prop}, le h k → chkE s.1 bs.length xss = 0 → ScriptP (xss.map List.length) ps → (∀ l h', New k h' kexploredone l ((foaS s.1 bs.length xss ps).map toDone) → Q l h') → c2 s t k Q)
  (iD : ∀ {x y : Ac} {h : Heap} {Q : Bool → Heap → Prop}, (∀ b : Bool, (b = true ↔ DepI s.1 (s.2.1.len : Int) x.2.1 x.2.2.1 x.2.2.2.1 y.2.1 y.2.2.1 y.2.2.2.1) → Q b h) → cD s x y h Q)
  (iW : ∀ {h0 h : Heap} {s6 : Sl} {m nA : Nat} {B : Ev → Int → Nat} {lens f : Nat → Nat} {n : Nat} {Q : Int → Heap → Prop}, Bef h0 s6 B nA lens → nA ≤ 4 → h0 m = none → sumN nA f = n → n ≤ 10 → (∀ w, f w ≤ lens w) → (∀ w, nA ≤ w → f w = 0) → Ag m h0 h → WM m nA B h → (∀ h', Ag m h0 h' → Q (waysN B nA n f : Int) h') → cW s6 (ky f) (some m) h Q)
include r hs i1 i2 iD iW
theorem kin_spec {Q : Den K2 → Heap → Prop} (hQ : ∀ e h', Rdy s.1 bs.length xss ps e → le h h' → Q (kinP s.1 bs.length xss ps e, (e, ())) h') : explore_Kin.M c1 c2 cD cW s t h Q := by
  obtain ⟨size, bg, lsl, u0⟩ := s
  refine i1 fun e h1 hr l1 => ⟨fun d => ?_, fun d => ?_⟩
  · have d : e ≠ 0 := of_decide_eq_true d
    have := hQ e h1 hr l1
    unfold kinP at this
    rw [if_neg d] at this
    exact this
  have d : ¬ e ≠ 0 := of_decide_eq_false d
  obtain rfl : e = 0 := Decidable.not_not.1 d
  obtain ⟨hc, hS⟩ := hr.ok
  have h10 := ten hs.2.1 hs.2.2 hc hS
  obtain ⟨_, _, _, hx4, _, _⟩ := chkE_ok hc
  have hin := hS.1
  rw [List.length_map] at hin
  have h0 : ∀ p ∈ ps, 0 ≤ p := fun p hp => (hin p hp).1
  have hlen : lsl.len = xss.length := r.lists
  have hbg : (bg.len : Int) = (bs.length : Int) := r.beg
  generalize hbd : bdE size bs.length xss = bd
  have hkin : kinP size bs.length xss ps 0 = (waysN (bfE bd ps) xss.length ps.length (cnt ps) : Int) := by unfold kinP; rw [if_pos rfl, hbd]
  have hQ' : ∀ h', le h h' → Q ((waysN (bfE bd ps) xss.length ps.length (cnt ps) : Int), (0, ())) h' := fun h' l => by
    rw [← hkin]; exact hQ 0 h' hr l
  clear hQ hkin
  refine make_new (by show (0 : Int) ≤ (lsl.len : Int); omega) (Int.le_refl _) (by show ((24 : Nat) : Int) * (lsl.len : Int) ≤ _; omega) (by show (lsl.len : Int) ≤ _; omega) fun s6 h7 n6 l6 _ _ => ?_
  rw [Int.toNat_natCast] at n6 l6
  have l6 : s6.len = lsl.len := l6
  have nst : Nest h1 h7 ka4 s6 (List.replicate lsl.len Sl.none) (kRows bd ps xss.length 0) := by
    rw [kRows_zero, ← hlen]; exact Nest.init n6
  refine i2 (l1.trans nst.le) hc hS fun r8 h9 n8 => ?_
  have hfl : (foaS size bs.length xss ps).length = ps.length := by unfold foaS; rw [steps_len, rowP_len]
  generalize hD : (foaS size bs.length xss ps).map toDone = D at n8
  have hDl : D.length = ps.length := by rw [← hD, List.length_map, hfl]
  have hDat : ∀ j (hj : j < ps.length), ∃ dn : Den kexploredone, D[j]? = some dn ∧ dn.1 = ps[j] ∧ dn.2.2.1 = xAt xss ps[j].toNat (cnt (ps.take j) ps[j].toNat) := fun j hj => by
    have hj2 : j < (foaS size bs.length xss ps).length := by omega
    refine ⟨toDone (foaS size bs.length xss ps)[j], by rw [← hD, List.getElem?_map, List.getElem?_eq_getElem hj2]; rfl, ?_⟩
    have h2 : ((steps (bdA size bs.length) (rowP xss ps ps.length)).map (·.1))[j]? = (rowP xss ps ps.length)[j]? := by rw [steps_fst]
    rw [List.getElem?_map, rowP_at hj] at h2
    have h3 : (steps (bdA size bs.length) (rowP xss ps ps.length))[j]? = some (foaS size bs.length xss ps)[j] := List.getElem?_eq_getElem hj2
    rw [h3] at h2
    have h4 : ((foaS size bs.length xss ps)[j]).1 = rowE xss ps j := Option.some.inj h2
    have e1 : (ps[j]?).getD 0 = ps[j] := by rw [List.getElem?_eq_getElem hj]; rfl
    constructor
    · show ((foaS size bs.length xss ps)[j]).1.1 = _
      rw [h4]; unfold rowE; exact e1
    · show ((foaS size bs.length xss ps)[j]).1.2.1 = _
      rw [h4]; unfold rowE
      dsimp only
      rw [e1]
  have hr8 := n8.len
  refine Loop.up ps.length (fun s => s.1) (fun i st k => (∃ els, Nest h1 k ka4 s6 els (kRows bd ps xss.length i) ∧ (∀ x, blkOf r8 x → ¬ fpN s6 els x) ∧ New h1 k kexploredone r8 D) ∧ ∀ w < 4, ag4 st.2.1.1 w = (cnt (ps.take i) w : Int)) rfl
    ⟨⟨_, nst.more n8.le, fun x hx hf => nst.live hf (n8.new x hx), n8.base nst.le⟩, fun w hw => by unfold ag4 aget; rw [dif_pos hw]; simp [cnt]⟩ ?_
  rintro i ⟨i', ⟨at', ua⟩, u⟩ k go hi hcc ⟨⟨els, n, ap, m⟩, hat⟩ hgo
  dsimp only at hcc hat; subst hcc
  have hol := n.out.len
  have hel := n.len
  have hkl : (kRows bd ps xss.length i).length = xss.length := by simp [kRows]
  refine dcs (fun e => ?_) (fun e => ?_)
  · have e : (i : Int) < (r8.len : Int) := e
    have hip : i < ps.length := by omega
    obtain ⟨w, hw⟩ : ∃ w : Nat, ps[i] = (w : Int) := ⟨ps[i].toNat, by have := h0 ps[i] (by simp); omega⟩
    have hwx : w < xss.length := by have := (hin ps[i] (by simp)).2; omega
    have hw4 : w < 4 := by omega
    obtain ⟨di, hdi, hd1, hd2⟩ := hDat i hip
    refine ⟨⟨Int.natCast_nonneg i, e⟩, m.arr.at (Int.natCast_nonneg i) e rfl fun y hy => ?_⟩
    rw [Int.toNat_natCast, hdi] at hy
    obtain rfl := Option.some.inj hy
    have hcap : i ≤ r8.cap := by have := m.own.self; omega
    refine ⟨⟨Int.natCast_nonneg i, by omega⟩, ?_⟩
    have hpre := m.arr.pre (n := i) (by omega) (sz := 7)
    have hpl := hpre.1
    rw [List.length_take] at hpl
    rw [hw] at hd1 hd2
    rw [Int.toNat_natCast] at hd2
    generalize hf : ((w : Int), cnt (ps.take i) w) = f
    have hev : (evL ps)[i]? = some f := by rw [evL_at hip, hw, Int.toNat_natCast, hf]
    have hil : i < (evL ps).length := by rw [evL_len]; exact hip
    have hevi : (evL ps)[i] = f := by rw [List.getElem?_eq_getElem hil] at hev; exact Option.some.inj hev
    have hf1 : f.1 = (w : Int) := by rw [← hf]
    have hbE : ∀ v : Int, bfE bd ps f v = bfF bd (evL (ps.take i)) f v := fun v => by
      have := bfE_at bd h0 hil v
      rwa [hevi] at this
    -- the inner loop
    refine Loop.up i (fun s => s.1) (fun j st k' => k' = k ∧ ∀ v < 4, ag4 st.2.1.1 v = (bfF bd (evL (ps.take j)) f (v : Int) : Int) ∧ ag4 st.2.2.1.1 v = (cnt (ps.take j) v : Int)) rfl
      ⟨rfl, fun v hv => by unfold ag4 aget; rw [dif_pos hv]; exact ⟨rfl, rfl⟩⟩ ?_
    rintro j ⟨j', ⟨b, ub⟩, ⟨past, up⟩, u2⟩ k' go2 hj hcj ⟨rfl, hI⟩ hgo2
    dsimp only at hcj hI; subst hcj
    refine dcs (fun e2 => ?_) (fun e2 => ?_)
    · have e2 : (j : Int) < ((r8.cut 0 ((i : Int)).toNat 7).len : Int) := e2
      rw [Int.toNat_natCast] at e2
      have hji : j < i := by omega
      have hjp : j < ps.length := by omega
      obtain ⟨v, hv⟩ : ∃ v : Nat, ps[j] = (v : Int) := ⟨ps[j].toNat, by have := h0 ps[j] (by simp); omega⟩
      have hvx : v < xss.length := by have := (hin ps[j] (by simp)).2; omega
      have hv4 : v < 4 := by omega
      obtain ⟨dj, hdj, hdj1, hdj2⟩ := hDat j hjp
      rw [hv] at hdj1 hdj2
      rw [Int.toNat_natCast] at hdj2
      have e2' : (j : Int) < ((r8.cut 0 ((i : Int)).toNat 7).len : Int) := by rw [Int.toNat_natCast]; exact e2
      refine ⟨⟨Int.natCast_nonneg j, e2'⟩, ?_⟩
      have hpre' : Arr k' kexploredone (r8.cut 0 ((i : Int)).toNat 7) (D.take i) := by rw [Int.toNat_natCast]; exact hpre
      refine hpre'.at (Int.natCast_nonneg j) e2' rfl fun y hy => ?_
      rw [Int.toNat_natCast, List.getElem?_take, if_pos hji, hdj] at hy
      obtain rfl := Option.some.inj hy
      have bnd : 0 ≤ dj.1 ∧ dj.1 < (4 : Int) := bnd4 hdj1 hv4
      have hd1n : dj.1.toNat = v := by rw [hdj1]; exact Int.toNat_natCast v
      refine ⟨bnd, bnd, ?_⟩
      have hcj := cnt_le ps j v
      have hpv : w64 (ag4 past dj.1.toNat + 1) = ((cnt (ps.take j) v + 1 : Nat) : Int) := by
        rw [hd1n, (hI v hv4).2, w64_of (by omega) (by omega)]; rfl
      have htk : ps.take (j + 1) = ps.take j ++ [(v : Int)] := by rw [take_succ' ps hjp, hv]
      have hevs : evL (ps.take (j + 1)) = evL (ps.take j) ++ [((v : Int), cnt (ps.take j) v)] := by rw [htk, evL_snoc, Int.toNat_natCast]
      have hpast : ∀ x < 4, ag4 (aset (n := 4) (a := ki) past dj.1.toNat (w64 (ag4 past dj.1.toNat + 1))) x = (cnt (ps.take (j + 1)) x : Int) := fun x hx => by
        rw [hpv, hd1n, ag4_set past hx, htk, cnt_app, cnt_one]
        by_cases z : x = v
        · subst z; rw [if_pos rfl, if_pos rfl]
        · rw [if_neg z, if_neg (by omega), (hI x hx).2]; rfl
      have fin : ∀ c : Bool, (c = true ↔ bd ((v : Int), cnt (ps.take j) v) f = true) → explore_Kin.j2 go2 ((j : Int), ((b, ub), ((past, up), u2))) dj (c, ()) k' := fun c hcb => by
        refine bcs (fun z => ?_) (fun z => ?_)
        · have z : c = true := z
          refine ⟨bnd, bnd, hgo2 hji _ _ (w64_up' (n := i) hji (by omega)) ⟨rfl, fun x hx => ⟨?_, hpast x hx⟩⟩⟩
          show ag4 (aset (n := 4) (a := ki) b dj.1.toNat (ag4 (aset (n := 4) (a := ki) past dj.1.toNat (w64 (ag4 past dj.1.toNat + 1))) dj.1.toNat)) x = _
          rw [ag4_set b hx, hd1n]
          have := hpast v hv4
          rw [hd1n] at this
          rw [hevs, bfF_snoc, this]
          by_cases y : x = v
          · subst y
            rw [if_pos rfl, if_pos ⟨rfl, hcb.1 z⟩, htk, cnt_app, cnt_one, if_pos rfl]
          · rw [if_neg y, if_neg (fun q => y (by have := q.1; omega)), (hI x hx).1]
        · have z : c = false := z
          refine hgo2 hji _ _ (w64_up' (n := i) hji (by omega)) ⟨rfl, fun x hx => ⟨?_, hpast x hx⟩⟩
          rw [hevs, bfF_snoc, if_neg (fun q => by rw [hcb.2 q.2] at z; cases z), (hI x hx).1]
      have hbq : ∀ P : Prop, (P ↔ DepI size (bg.len : Int) dj.2.2.1.2.1 dj.2.2.1.2.2.1 dj.2.2.1.2.2.2.1 di.2.2.1.2.1 di.2.2.1.2.2.1 di.2.2.1.2.2.2.1) → (bd ((v : Int), cnt (ps.take j) v) f = true ↔ (v : Int) = (w : Int) ∨ P) := fun P hP => by
        rw [← hbd, hP, hdj2, hd2, hbg, ← hf]
        unfold bdE bdA gE
        dsimp only
        rw [decide_eq_true_eq, Int.toNat_natCast, Int.toNat_natCast]
      refine dcs (fun e3 => fin true ⟨fun _ => (hbq _ Iff.rfl).2 (.inl (by rw [← hdj1, ← hd1]; exact e3)), fun _ => rfl⟩) (fun e3 => iD fun c hcb => fin c ?_)
      rw [hbq _ hcb]
      exact ⟨.inr, fun z => z.resolve_left (fun q => e3 (by rw [hdj1, hd1]; exact q))⟩
    · have e2 : ¬ (j : Int) < ((r8.cut 0 ((i : Int)).toNat 7).len : Int) := e2
      rw [Int.toNat_natCast] at e2
      obtain rfl : j = i := by omega
      have hdw : di.1.toNat = w := by rw [hd1]; exact Int.toNat_natCast w
      have hb : b = rowB bd ps f := ka4_ext fun x hx => by rw [(hI x hx).1, rowB_at bd ps f hx, hbE]
      have bn6 : 0 ≤ di.1 ∧ di.1 < (s6.len : Int) := bndN hd1 (by omega)
      have hwe : w < els.length := by omega
      have hew : els[w]? = some els[w] := by simp
      have hrw : (kRows bd ps xss.length j)[w]? = some (kRow bd ps j w) := by unfold kRows; rw [List.getElem?_map, List.getElem?_range hwx]; rfl
      have hrow := n.row w _ _ hew hrw
      have hrl := hrow.len
      have hkrl : (kRow bd ps j w).length = cnt (ps.take j) w := by simp [kRow]
      have hcj := cnt_le ps j w
      refine ⟨bn6, n.out.arr.at bn6.1 bn6.2 rfl fun y hy => ?_⟩
      rw [hdw, hew] at hy
      obtain rfl := Option.some.inj hy
      refine hrow.app3 (k := ka4) (x := b) rfl rfl (show (els[w].len + 1) * 32 ≤ _ by omega) fun t3 h3 n3 x3 b3 => ⟨bn6, ?_⟩
      refine n.put (p := di.1) (i := w) hd1 hew n3 x3 b3 rfl fun h4 n4 st4 => ?_
      have bnd : 0 ≤ di.1 ∧ di.1 < (4 : Int) := bnd4 hd1 hw4
      refine ⟨bnd, bnd, ?_⟩
      have htk : ps.take (j + 1) = ps.take j ++ [(w : Int)] := by rw [take_succ' ps hip, hw]
      have hnew : (kRows bd ps xss.length j).set w (kRow bd ps j w ++ [b]) = kRows bd ps xss.length (j + 1) := by
        apply List.ext_getElem
        · simp [kRows]
        · intro x y1 y2
          rw [List.getElem_set]
          rw [kRows_at, kRows_at]
          unfold kRow
          rw [htk, cnt_app, cnt_one]
          by_cases z : w = x
          · subst z
            rw [if_pos rfl, if_pos rfl, List.range_succ, List.map_append, hb, ← hf]; rfl
          · rw [if_neg z, if_neg (by omega), Nat.add_zero]
      rw [hnew] at n4
      have hcount : w64 (ag4 at' di.1.toNat + 1) = ((cnt (ps.take j) w + 1 : Nat) : Int) := by
        rw [hdw, hat w hw4, w64_of (by omega) (by omega)]; rfl
      refine hgo hip _ _ (w64_up' (n := ps.length) hip (by omega)) ⟨⟨_, n4, st4.off ap fun x hx => m.own.live x hx, m.ext st4.1 ap fun x q => n.fresh q⟩, fun x hx => ?_⟩
      show ag4 (aset (n := 4) (a := ki) at' di.1.toNat (w64 (ag4 at' di.1.toNat + 1))) x = _
      rw [hcount, hdw, ag4_set at' hx, htk, cnt_app, cnt_one]
      by_cases z : x = w
      · subst z; rw [if_pos rfl, if_pos rfl]
      · rw [if_neg z, if_neg (by omega), hat x hx]; rfl
  · have e : ¬ (i : Int) < (r8.len : Int) := e
    obtain rfl : i = ps.length := by omega
    rw [List.take_length] at hat
    have hatk : at' = ky (cnt ps) := ka4_ext fun x hx => by rw [hat x hx, ky_at _ hx]
    refine fun mb hmb => ⟨[], ⟨#[], 0, by unfold upd; rw [if_pos rfl], rfl, List.nodup_nil, fun x hx => (by cases hx)⟩, fun h36 q1 q2 => ?_⟩
    have hag : Ag mb k h36 := fun c hc => by rw [q2 c hc]; unfold upd; rw [if_neg hc]
    have hbef : Bef k s6 (bfE bd ps) xss.length (cnt ps) := ⟨els, n.out.arr, by omega, fun o ho sl hsl => ⟨kRow bd ps ps.length o, (n.row o sl _ hsl (by unfold kRows; rw [List.getElem?_map, List.getElem?_range ho]; rfl)).arr, by unfold kRow; rw [List.length_map, List.length_range, List.take_length], fun q v hv x hx => by
      unfold kRow at hv
      rw [List.getElem?_map] at hv
      have hq : q < cnt (ps.take ps.length) o := by
        rcases Nat.lt_or_ge q (cnt (ps.take ps.length) o) with z | z
        · exact z
        · rw [List.getElem?_eq_none (by simpa using z)] at hv; cases hv
      rw [List.getElem?_range hq] at hv
      have hv : rowB bd ps ((o : Int), q) = v := Option.some.inj hv
      rw [← hv, rowB_at _ _ _ hx]⟩⟩
    show cW s6 at' (some mb) h36 _
    rw [hatk]
    refine iW hbef hx4 hmb (sumN_cnt hin) h10 (fun w => Nat.le_refl _) (fun w hw => cnt_none hin hw) hag ⟨_, q1, ?_, fun g hg v hv => ?_⟩ fun h38 hag2 => hQ' h38 ((l1.trans n.le).trans (hag2.le hmb))
    · rw [mGet_put eq_ka4]
      have : eqK ka4 (ky fun _ => 0) (Kd.zero ka4) = true := (eq_ka4 _ _).2 rfl
      rw [this]; rfl
    · rw [mGet_put eq_ka4] at hv
      cases eq : eqK ka4 (ky g) (Kd.zero ka4) with
      | false => rw [eq] at hv; cases hv
      | true =>
        rw [eq] at hv
        have : g = fun _ => 0 := ky_inj hx4 hg (fun _ _ => rfl) ((eq_ka4 _ _).1 eq)
        subst this
        have hz2 : sumN xss.length (fun _ => 0) = 0 := by
          unfold sumN
          rw [List.map_const', List.sum_replicate_nat]; omega
        rw [hz2]
        exact (Option.some.inj hv).symm
end
end Go.Mx

namespace Go.Mx

/-- One more row. -/
theorem Nest.snoc {h0 h : Heap} {k : Kd} {o t : Sl} {els : List Sl} {xss : List (List (Den k))} {ys : List (Den k)} (n : Nest h0 h k o els xss) (nt : New h0 h k t ys) (ap : ∀ x, blkOf t x → ¬ fpN o els x) (hb : (o.len + 1) * 24 ≤ 140737488355328) {K : Sl → Heap → Prop}
    (hK : ∀ o' h', Nest h0 h' k o' (els ++ [t]) (xss ++ [ys]) → Ext (blkOf o) h h' → (∀ b, blkOf o' b → blkOf o b ∨ h b = none) → K o' h') : Go.Mx.new h ([t].flatMap (Kd.cells .sl)) fun p h1 => appendM 1 24 h1 o ⟨some p, 1, 1⟩ K := by
  obtain ⟨s1, s2⟩ := List.pairwise_cons.1 n.sep
  refine n.out.app3 rfl rfl hb fun o' h' n2 x2 b2 => hK o' h' ⟨n2, by rw [List.length_append, List.length_append, n.len]; rfl, fun i sl xs a b => ?_, List.pairwise_cons.2 ⟨fun sl hs b hb1 hb2 => ?_, ?_⟩⟩ x2 b2
  · by_cases c : i < els.length
    · rw [List.getElem?_append_left c] at a
      rw [List.getElem?_append_left (by rw [← n.len]; exact c)] at b
      exact (n.row i sl xs a b).ext x2 (fun z u v => s1 sl (List.mem_of_getElem? a) z v u) n.out.new
    · rw [List.getElem?_append_right (by omega)] at a
      rw [List.getElem?_append_right (by rw [← n.len]; omega)] at b
      have a1 := List.mem_of_getElem? a
      have b1 := List.mem_of_getElem? b
      have a1 : sl = t := by simpa using a1
      have b1 : xs = ys := by simpa using b1
      subst a1; subst b1
      exact nt.ext x2 (fun z u v => ap z u (.inl v)) n.out.new
  · rcases List.mem_append.1 hs with hs | hs
    · rcases b2 b hb1 with d | d
      · exact s1 sl hs b d hb2
      · obtain ⟨xs, q⟩ := n.row' hs
        exact q.own.live b hb2 d
    · have : sl = t := by simpa using hs
      subst this
      rcases b2 b hb1 with d | d
      · exact ap b hb2 (.inl d)
      · exact nt.own.live b hb2 d
  · rw [List.pairwise_append]
    refine ⟨s2, by simp, fun a ha b hb' x hx hy => ?_⟩
    have : b = t := by simpa using hb'
    subst this
    exact ap x hy (.inr ⟨a, ha, hx⟩)
theorem Step.ofLe {S : Nat → Prop} {h h' : Heap} (l : Go.Mx.le h h') : Step S S h h' := ⟨l.toExt, fun _ q => .inl q⟩

/-! ### all scripts, in order -/
def allW (lens : List Nat) : Nat → List Int → List (List Int)
  | 0, u => [u]
  | n + 1, u => (List.range lens.length).flatMap fun w => if cnt u w < (lens[w]?).getD 0 then allW lens n (u ++ [(w : Int)]) else []
def allC (lens : List Nat) (n : Nat) (u : List Int) (w : Nat) : List (List Int) := if cnt u w < (lens[w]?).getD 0 then allW lens n (u ++ [(w : Int)]) else []
theorem allW_succ (lens : List Nat) (n : Nat) (u : List Int) : allW lens (n + 1) u = (List.range lens.length).flatMap (allC lens n u) := rfl
theorem flat_len_le {α β : Type} (f : α → List β) (c : Nat) (l : List α) (h : ∀ x ∈ l, (f x).length ≤ c) : (l.flatMap f).length ≤ l.length * c := by
  induction l with
  | nil => simp
  | cons a l ih =>
    rw [List.flatMap_cons, List.length_append, List.length_cons, Nat.succ_mul]
    have h1 := h a (by simp)
    have := ih fun x hx => h x (List.mem_cons_of_mem _ hx)
    omega
theorem allW_len (lens : List Nat) (h4 : lens.length ≤ 4) : ∀ (n : Nat) (u : List Int), (allW lens n u).length ≤ 4 ^ n
  | 0, _ => Nat.le_refl _
  | n + 1, u => by
    rw [allW_succ]
    have := flat_len_le (allC lens n u) (4 ^ n) (List.range lens.length) fun w _ => by
      unfold allC
      split
      · exact allW_len lens h4 n _
      · exact Nat.zero_le _
    rw [List.length_range] at this
    have h2 : lens.length * 4 ^ n ≤ 4 * 4 ^ n := Nat.mul_le_mul_right _ h4
    rw [Nat.pow_succ]
    omega
theorem allW_mem (lens : List Nat) : ∀ (n : Nat) (u q : List Int), (∀ w, cnt u w ≤ (lens[w]?).getD 0) → (q ∈ allW lens n u ↔ ∃ v, q = u ++ v ∧ v.length = n ∧ InR lens.length v ∧ ∀ w, cnt q w ≤ (lens[w]?).getD 0)
  | 0, u, q, hu => by
    show q ∈ [u] ↔ _
    rw [List.mem_singleton]
    constructor
    · rintro rfl
      exact ⟨[], by simp, rfl, fun p hp => (by cases hp), hu⟩
    · rintro ⟨v, h1, h2, _, _⟩
      have : v = [] := List.eq_nil_of_length_eq_zero h2
      rw [h1, this, List.append_nil]
  | n + 1, u, q, hu => by
    rw [allW_succ, List.mem_flatMap]
    constructor
    · rintro ⟨w, hw, hq⟩
      have hw := List.mem_range.1 hw
      unfold allC at hq
      by_cases z : cnt u w < (lens[w]?).getD 0
      · rw [if_pos z] at hq
        have hu2 : ∀ x, cnt (u ++ [(w : Int)]) x ≤ (lens[x]?).getD 0 := fun x => by
          rw [cnt_app, cnt_one]
          have := hu x
          by_cases y : (w : Int) = (x : Int)
          · have : w = x := by omega
            subst this
            rw [if_pos rfl]; omega
          · rw [if_neg y]; omega
        obtain ⟨v, h1, h2, h3, h4⟩ := (allW_mem lens n _ q hu2).1 hq
        refine ⟨(w : Int) :: v, by rw [h1]; simp, by rw [List.length_cons, h2], fun p hp => ?_, h4⟩
        rcases List.mem_cons.1 hp with rfl | hp
        · omega
        · exact h3 p hp
      · rw [if_neg z] at hq; cases hq
    · rintro ⟨v, h1, h2, h3, h4⟩
      cases v with
      | nil => cases h2
      | cons p v =>
        have hp := h3 p (by simp)
        obtain ⟨w, rfl⟩ : ∃ w : Nat, p = (w : Int) := ⟨p.toNat, by omega⟩
        refine ⟨w, List.mem_range.2 (by omega), ?_⟩
        have hcw : cnt u w < (lens[w]?).getD 0 := by
          have := h4 w
          rw [h1, cnt_app, cnt_cons, if_pos rfl] at this
          omega
        unfold allC
        rw [if_pos hcw]
        have hu2 : ∀ x, cnt (u ++ [(w : Int)]) x ≤ (lens[x]?).getD 0 := fun x => by
          rw [cnt_app, cnt_one]
          have := hu x
          by_cases y : (w : Int) = (x : Int)
          · have : w = x := by omega
            subst this
            rw [if_pos rfl]; omega
          · rw [if_neg y]; omega
        exact (allW_mem lens n _ q hu2).2 ⟨v, by rw [h1]; simp, by simpa using h2, fun p hp => h3 p (List.mem_cons_of_mem _ hp), h4⟩
theorem allW_nodup (lens : List Nat) : ∀ (n : Nat) (u : List Int), (∀ w, cnt u w ≤ (lens[w]?).getD 0) → (allW lens n u).Nodup
  | 0, u, _ => by simp [allW]
  | n + 1, u, hu => by
    have hu2 : ∀ w, cnt u w < (lens[w]?).getD 0 → ∀ x, cnt (u ++ [(w : Int)]) x ≤ (lens[x]?).getD 0 := fun w hw x => by
      rw [cnt_app, cnt_one]
      have := hu x
      by_cases y : (w : Int) = (x : Int)
      · have : w = x := by omega
        subst this
        rw [if_pos rfl]; omega
      · rw [if_neg y]; omega
    rw [allW_succ, List.Nodup, List.pairwise_flatMap]
    refine ⟨fun w _ => ?_, List.pairwise_lt_range.imp fun {a b} hab x hx y hy e => ?_⟩
    · unfold allC
      by_cases z : cnt u w < (lens[w]?).getD 0
      · rw [if_pos z]; exact allW_nodup lens n _ (hu2 w z)
      · rw [if_neg z]; exact .nil
    · have hd : ∀ {w : Nat} {x : List Int}, x ∈ allC lens n u w → ∃ v, x = u ++ (w : Int) :: v := fun {w x} hx => by
        unfold allC at hx
        by_cases z : cnt u w < (lens[w]?).getD 0
        · rw [if_pos z] at hx
          obtain ⟨v, h1, _⟩ := (allW_mem lens n _ x (hu2 w z)).1 hx
          exact ⟨v, by rw [h1]; simp⟩
        · rw [if_neg z] at hx; cases hx
      obtain ⟨v, h1⟩ := hd hx
      obtain ⟨v2, h2⟩ := hd hy
      rw [e, h2] at h1
      have := List.append_cancel_left h1
      have := (List.cons.inj this).1
      omega
theorem allW_script {lens : List Nat} {q : List Int} : q ∈ allW lens lens.sum [] ↔ ScriptP lens q := by
  have h0 : ∀ w, cnt [] w ≤ (lens[w]?).getD 0 := fun w => Nat.zero_le _
  rw [allW_mem lens _ _ _ h0]
  constructor
  · rintro ⟨v, h1, h2, h3, h4⟩
    rw [List.nil_append] at h1
    subst h1
    refine ⟨h3, fun i l hl => ?_⟩
    have hs := cnt_sum lens.length q h3
    have hls : ((List.range lens.length).map fun w => (lens[w]?).getD 0) = lens := by
      apply List.ext_getElem
      · simp
      · intro i _ hi
        simp [hi]
    have key : ∀ (L : List Nat) (f g : Nat → Nat), (∀ x ∈ L, f x ≤ g x) → (L.map f).sum = (L.map g).sum → ∀ x ∈ L, f x = g x := fun L f g => by
      induction L with
      | nil => intro _ _ x hx; cases hx
      | cons a L ih =>
        intro hle he x hx
        rw [List.map_cons, List.map_cons, List.sum_cons, List.sum_cons] at he
        have ha := hle a (by simp)
        have hsl : (L.map f).sum ≤ (L.map g).sum := by
          have : ∀ M : List Nat, (∀ x ∈ M, f x ≤ g x) → (M.map f).sum ≤ (M.map g).sum := fun M => by
            induction M with
            | nil => intro _; exact Nat.le_refl _
            | cons b M ihM =>
              intro h
              rw [List.map_cons, List.map_cons, List.sum_cons, List.sum_cons]
              have := ihM fun x hx => h x (List.mem_cons_of_mem _ hx)
              have := h b (by simp)
              omega
          exact this L fun x hx => hle x (List.mem_cons_of_mem _ hx)
        rcases List.mem_cons.1 hx with rfl | hx
        · omega
        · exact ih (fun x hx => hle x (List.mem_cons_of_mem _ hx)) (by omega) x hx
    have hil : i < lens.length := (List.getElem?_eq_some_iff.1 hl).1
    have := key (List.range lens.length) (cnt q) (fun w => (lens[w]?).getD 0) (fun x _ => h4 x) (by rw [hls, hs, h2]) i (List.mem_range.2 hil)
    rw [this, hl]; rfl
  · intro h
    refine ⟨q, by simp, h.len, h.1, fun w => ?_⟩
    by_cases z : w < lens.length
    · rw [h.2 w lens[w] (by simp)]; simp [z]
    · rw [cnt_none h.1 (by omega)]; exact Nat.zero_le _

end Go.Mx

namespace Go.Mx

def sameB (sz len : Int) (xss : List (List Ac)) (ps qs : List Int) : Bool := sameR (bdA sz len) (rowP xss ps ps.length) qs
def allS (xss : List (List Ac)) : List (List Int) := allW (xss.map List.length) (xss.map List.length).sum []
theorem allS_mem {xss : List (List Ac)} {q : List Int} : q ∈ allS xss ↔ ScriptP (xss.map List.length) q := allW_script
theorem allS_nodup (xss : List (List Ac)) : (allS xss).Nodup := allW_nodup _ _ _ fun w => Nat.zero_le _
theorem allS_len {xss : List (List Ac)} (h4 : xss.length ≤ 4) (hT : (xss.map List.length).sum ≤ 10) : (allS xss).length ≤ 1048576 := by
  have h1 := allW_len (xss.map List.length) (by simpa using h4) (xss.map List.length).sum []
  have h2 : 4 ^ (xss.map List.length).sum ≤ 4 ^ 10 := Nat.pow_le_pow_right (by omega) hT
  have h3 : (4 : Nat) ^ 10 = 1048576 := by decide
  unfold allS
  omega
theorem sameB_alk {sz len : Int} {xss : List (List Ac)} {ps qs : List Int} (hS : ScriptP (xss.map List.length) ps) (hSq : ScriptP (xss.map List.length) qs) : sameB sz len xss ps qs = true ↔ Alk (bdE sz len xss) (evL ps) (evL qs) := by
  have s2 := hS.same2 hSq
  have := sameR_alk (sz := sz) (len := len) (xss := xss) (m := evL qs) (evL_nodup s2.p0) (fun e he => ((evL_mem s2.p0 e).1 he).1) s2.filt
  rw [evL_fst, ← evL_rows] at this
  exact this
theorem kin_eq {sz len : Int} {xss : List (List Ac)} {ps : List Int} (hS : ScriptP (xss.map List.length) ps) : waysN (bfE (bdE sz len xss) ps) xss.length ps.length (cnt ps) = ((allS xss).filter (sameB sz len xss ps)).length := by
  rw [← waysL_len]
  have hin := hS.1
  rw [List.length_map] at hin
  have h0 : ∀ p ∈ ps, 0 ≤ p := fun p hp => (hin p hp).1
  have hup : uptoE ps (cnt ps) = evL ps := by
    unfold uptoE
    rw [List.filter_eq_self]
    intro e he
    exact decide_eq_true ((evL_mem h0 e).1 he).2
  refine List.Perm.length_eq ((List.perm_ext_iff_of_nodup (waysL_nodup _ _ _ _) ((allS_nodup xss).filter _)).2 fun q => ?_)
  rw [waysL_mem (bdE sz len xss) (bdE_sym sz len xss) hin ps.length (cnt ps) (sumN_cnt hin) (fun w => Nat.le_refl _) (fun f _ g hg _ => by rw [hup]; exact (pair_mem hg).1) q, List.mem_filter, allS_mem, hup]
  have hc : (InR xss.length q ∧ ∀ w, cnt q w = cnt ps w) ↔ ScriptP (xss.map List.length) q := by
    constructor
    · rintro ⟨a, b⟩
      exact ⟨by rw [List.length_map]; exact a, fun i l hl => by rw [b i]; exact hS.2 i l hl⟩
    · intro h
      have a := h.1
      rw [List.length_map] at a
      refine ⟨a, fun w => ?_⟩
      by_cases z : w < xss.length
      · have hw : (xss.map List.length)[w]? = some xss[w].length := by simp [z]
        rw [h.2 w _ hw, hS.2 w _ hw]
      · rw [cnt_none a (by omega), cnt_none hin (by omega)]
  constructor
  · rintro ⟨a, b, c⟩
    have hq := hc.1 ⟨a, b⟩
    exact ⟨hq, (sameB_alk hS hq).2 c⟩
  · rintro ⟨a, b⟩
    obtain ⟨c, d⟩ := hc.2 a
    exact ⟨c, d, (sameB_alk hS a).1 b⟩
theorem filter_step' {α : Type} (f : α → Bool) (l : List α) {i : Nat} (h : i < l.length) : ((l.take (i + 1)).filter f).length = ((l.take i).filter f).length + if f l[i] = true then 1 else 0 := by
  rw [take_succ' l h, List.filter_append, List.length_append]
  congr 1
  cases e : f l[i] <;> simp [List.filter, e]

end Go.Mx
