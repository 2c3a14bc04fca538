/-
  How many scripts are alike: the walk of the program's Kin.
-/
import Derived.Test.YtanfmmcpjifgiabMxKl
set_option linter.unusedVariables false
set_option linter.unusedSimpArgs false
set_option linter.unusedSectionVars false
namespace Go.Mx

def rowB (bd : Ev → Ev → Bool) (ps : List Int) (e : Ev) : Den ka4 := fun w => (bfE bd ps e (w.val : Int) : Int)
def kRow (bd : Ev → Ev → Bool) (ps : List Int) (i o : Nat) : List (Den ka4) := (List.range (cnt (ps.take i) o)).map fun k => rowB bd ps ((o : Int), k)
def kRows (bd : Ev → Ev → Bool) (ps : List Int) (nA i : Nat) : List (List (Den ka4)) := (List.range nA).map (kRow bd ps i)
theorem kRows_zero (bd : Ev → Ev → Bool) (ps : List Int) (nA : Nat) : kRows bd ps nA 0 = List.replicate nA [] := by
  apply List.ext_getElem
  · simp [kRows]
  · intro i _ _
    simp [kRows, kRow, cnt]
theorem kRows_at {bd : Ev → Ev → Bool} {ps : List Int} {nA i x : Nat} (h : x < (kRows bd ps nA i).length) : (kRows bd ps nA i)[x] = kRow bd ps i x := by simp [kRows]
theorem rowB_at (bd : Ev → Ev → Bool) (ps : List Int) (e : Ev) {w : Nat} (h : w < 4) : ag4 (rowB bd ps e) w = (bfE bd ps e (w : Int) : Int) := by
  unfold ag4 aget; rw [dif_pos h]; rfl
theorem evL_at {ps : List Int} {i : Nat} (h : i < ps.length) : (evL ps)[i]? = some (ps[i], cnt (ps.take i) ps[i].toNat) := by
  rw [evL_get, if_pos h]
  simp [h]
theorem sumN_cnt {n : Nat} {ps : List Int} (h : InR n ps) : sumN n (cnt ps) = ps.length := cnt_sum n ps h
theorem ka4_ext {f g : Den ka4} (h : ∀ w, w < 4 → ag4 f w = ag4 g w) : f = g := by
  funext i
  have := h i.val i.isLt
  unfold ag4 aget at this
  rw [dif_pos i.isLt, dif_pos i.isLt] at this
  exact this
theorem ag4_set (f : Den ka4) {i j : Nat} {v : Int} (hj : j < 4) : ag4 (aset (n := 4) (a := ki) f i v) j = if j = i then v else ag4 f j := aget_set hj

theorem bnd4 {x : Int} {v : Nat} (h : x = (v : Int)) (hv : v < 4) : 0 ≤ x ∧ x < (4 : Int) := by omega
theorem bndN {x : Int} {v n : Nat} (h : x = (v : Int)) (hv : v < n) : 0 ≤ x ∧ x < (n : Int) := by omega
/-- The value of Kin. -/
def kinP (sz len : Int) (xss : List (List Ac)) (ps : List Int) (e : Int) : Int := if e = 0 then (waysN (bfE (bdE sz len xss) ps) xss.length ps.length (cnt ps) : Int) else 0

section
variable {h : Heap} {s : Sc} {t : Sl} {bs ps : List Int} {xss : List (List Ac)} (r : ScR h s bs xss) (hs : Small bs xss)
  {c1 : Sc → Sl → Heap → (Int → Heap → Prop) → Prop} {c2 : Sc → Sl → Heap → (Sl → Heap → Prop) → Prop} {cD : Sc → Ac → Ac → Heap → (Bool → Heap → Prop) → Prop} {cW : Sl → (Fin 4 → Int) → Option Nat → Heap → (Int → Heap → Prop) → Prop}
  (i1 : ∀ {Q : Int → Heap → Prop}, (∀ e h', Rdy s.1 bs.length xss ps e → le h h' → Q e h') → c1 s t h Q)
  (i2 : ∀ {k : Heap} {Q : Sl → Heap → Prop}, le h k → chkE s.1 bs.length xss = 0 → ScriptP (xss.map List.length) ps → (∀ l h', New k h' kexploredone l ((foaS s.1 bs.length xss ps).map toDone) → Q l h') → c2 s t k Q)
  (iD : ∀ {x y : Ac} {h : Heap} {Q : Bool → Heap → Prop}, (∀ b : Bool, (b = true ↔ DepI s.1 (s.2.1.len : Int) x.2.1 x.2.2.1 x.2.2.2.1 y.2.1 y.2.2.1 y.2.2.2.1) → Q b h) → cD s x y h Q)
  (iW : ∀ {h0 h : Heap} {s6 : Sl} {m nA : Nat} {B : Ev → Int → Nat} {lens f : Nat → Nat} {n : Nat} {Q : Int → Heap → Prop}, Bef h0 s6 B nA lens → nA ≤ 4 → h0 m = none → sumN nA f = n → n ≤ 10 → (∀ w, f w ≤ lens w) → (∀ w, nA ≤ w → f w = 0) → Ag m h0 h → WM m nA B h → (∀ h', Ag m h0 h' → Q (waysN B nA n f : Int) h') → cW s6 (ky f) (some m) h Q)
include r hs i1 i2 iD iW
theorem kin_spec {Q : Den kcellsledger → Heap → Prop} (hQ : ∀ e h', Rdy s.1 bs.length xss ps e → le h h' → Q (kinP s.1 bs.length xss ps e, (e, ())) h') : explore_Kin.M c1 c2 cD cW s t h Q := by
  obtain ⟨size, bg, lsl, u0⟩ := s
  refine i1 fun e h1 hr l1 => ⟨fun d => ?_, fun d => ?_⟩
  · have d : e ≠ 0 := of_decide_eq_true d
    have := hQ e h1 hr l1
    unfold kinP at this
    rw [if_neg d] at this
    exact this
  have d : ¬ e ≠ 0 := of_decide_eq_false d
  obtain rfl : e = 0 := Decidable.not_not.1 d
  obtain ⟨hc, hS⟩ := hr.ok
  have h10 := ten hs.2.1 hs.2.2 hc hS
  obtain ⟨_, _, _, hx4, _, _⟩ := chkE_ok hc
  have hin := hS.1
  rw [List.length_map] at hin
  have h0 : ∀ p ∈ ps, 0 ≤ p := fun p hp => (hin p hp).1
  have hlen : lsl.len = xss.length := r.lists
  have hbg : (bg.len : Int) = (bs.length : Int) := r.beg
  generalize hbd : bdE size bs.length xss = bd
  have hkin : kinP size bs.length xss ps 0 = (waysN (bfE bd ps) xss.length ps.length (cnt ps) : Int) := by unfold kinP; rw [if_pos rfl, hbd]
  have hQ' : ∀ h', le h h' → Q ((waysN (bfE bd ps) xss.length ps.length (cnt ps) : Int), (0, ())) h' := fun h' l => by
    rw [← hkin]; exact hQ 0 h' hr l
  clear hQ hkin
  refine make_new (by show (0 : Int) ≤ (lsl.len : Int); omega) (Int.le_refl _) (by show ((24 : Nat) : Int) * (lsl.len : Int) ≤ _; omega) (by show (lsl.len : Int) ≤ _; omega) fun s6 h7 n6 l6 _ _ => ?_
  rw [Int.toNat_natCast] at n6 l6
  have l6 : s6.len = lsl.len := l6
  have nst : Nest h1 h7 ka4 s6 (List.replicate lsl.len Sl.none) (kRows bd ps xss.length 0) := by
    rw [kRows_zero, ← hlen]; exact Nest.init n6
  refine i2 (l1.trans nst.le) hc hS fun r8 h9 n8 => ?_
  have hfl : (foaS size bs.length xss ps).length = ps.length := by unfold foaS; rw [steps_len, rowP_len]
  generalize hD : (foaS size bs.length xss ps).map toDone = D at n8
  have hDl : D.length = ps.length := by rw [← hD, List.length_map, hfl]
  have hDat : ∀ j (hj : j < ps.length), ∃ dn : Den kexploredone, D[j]? = some dn ∧ dn.1 = ps[j] ∧ dn.2.2.1 = xAt xss ps[j].toNat (cnt (ps.take j) ps[j].toNat) := fun j hj => by
    have hj2 : j < (foaS size bs.length xss ps).length := by omega
    refine ⟨toDone (foaS size bs.length xss ps)[j], by rw [← hD, List.getElem?_map, List.getElem?_eq_getElem hj2]; rfl, ?_⟩
    have h2 : ((steps (bdA size bs.length) (rowP xss ps ps.length)).map (·.1))[j]? = (rowP xss ps ps.length)[j]? := by rw [steps_fst]
    rw [List.getElem?_map, rowP_at hj] at h2
    have h3 : (steps (bdA size bs.length) (rowP xss ps ps.length))[j]? = some (foaS size bs.length xss ps)[j] := List.getElem?_eq_getElem hj2
    rw [h3] at h2
    have h4 : ((foaS size bs.length xss ps)[j]).1 = rowE xss ps j := Option.some.inj h2
    have e1 : (ps[j]?).getD 0 = ps[j] := by rw [List.getElem?_eq_getElem hj]; rfl
    constructor
    · show ((foaS size bs.length xss ps)[j]).1.1 = _
      rw [h4]; unfold rowE; exact e1
    · show ((foaS size bs.length xss ps)[j]).1.2.1 = _
      rw [h4]; unfold rowE
      dsimp only
      rw [e1]
  have hr8 := n8.len
  refine Loop.up ps.length (fun s => s.1) (fun i st k => (∃ els, Nest h1 k ka4 s6 els (kRows bd ps xss.length i) ∧ (∀ x, blkOf r8 x → ¬ fpN s6 els x) ∧ New h1 k kexploredone r8 D) ∧ ∀ w < 4, ag4 st.2.1.1 w = (cnt (ps.take i) w : Int)) rfl
    ⟨⟨_, nst.more n8.le, fun x hx hf => nst.live hf (n8.new x hx), n8.base nst.le⟩, fun w hw => by unfold ag4 aget; rw [dif_pos hw]; simp [cnt]⟩ ?_
  rintro i ⟨i', ⟨at', ua⟩, u⟩ k go hi hcc ⟨⟨els, n, ap, m⟩, hat⟩ hgo
  dsimp only at hcc hat; subst hcc
  have hol := n.out.len
  have hel := n.len
  have hkl : (kRows bd ps xss.length i).length = xss.length := by simp [kRows]
  refine dcs (fun e => ?_) (fun e => ?_)
  · have e : (i : Int) < (r8.len : Int) := e
    have hip : i < ps.length := by omega
    obtain ⟨w, hw⟩ : ∃ w : Nat, ps[i] = (w : Int) := ⟨ps[i].toNat, by have := h0 ps[i] (by simp); omega⟩
    have hwx : w < xss.length := by have := (hin ps[i] (by simp)).2; omega
    have hw4 : w < 4 := by omega
    obtain ⟨di, hdi, hd1, hd2⟩ := hDat i hip
    refine ⟨⟨Int.natCast_nonneg i, e⟩, m.arr.at (Int.natCast_nonneg i) e rfl fun y hy => ?_⟩
    rw [Int.toNat_natCast, hdi] at hy
    obtain rfl := Option.some.inj hy
    have hcap : i ≤ r8.cap := by have := m.own.self; omega
    refine ⟨⟨Int.natCast_nonneg i, by omega⟩, ?_⟩
    have hpre := m.arr.pre (n := i) (by omega) (sz := 7)
    have hpl := hpre.1
    rw [List.length_take] at hpl
    rw [hw] at hd1 hd2
    rw [Int.toNat_natCast] at hd2
    generalize hf : ((w : Int), cnt (ps.take i) w) = f
    have hev : (evL ps)[i]? = some f := by rw [evL_at hip, hw, Int.toNat_natCast, hf]
    have hil : i < (evL ps).length := by rw [evL_len]; exact hip
    have hevi : (evL ps)[i] = f := by rw [List.getElem?_eq_getElem hil] at hev; exact Option.some.inj hev
    have hf1 : f.1 = (w : Int) := by rw [← hf]
    have hbE : ∀ v : Int, bfE bd ps f v = bfF bd (evL (ps.take i)) f v := fun v => by
      have := bfE_at bd h0 hil v
      rwa [hevi] at this
    -- the inner loop
    refine Loop.up i (fun s => s.1) (fun j st k' => k' = k ∧ ∀ v < 4, ag4 st.2.1.1 v = (bfF bd (evL (ps.take j)) f (v : Int) : Int) ∧ ag4 st.2.2.1.1 v = (cnt (ps.take j) v : Int)) rfl
      ⟨rfl, fun v hv => by unfold ag4 aget; rw [dif_pos hv]; exact ⟨rfl, rfl⟩⟩ ?_
    rintro j ⟨j', ⟨b, ub⟩, ⟨past, up⟩, u2⟩ k' go2 hj hcj ⟨rfl, hI⟩ hgo2
    dsimp only at hcj hI; subst hcj
    refine dcs (fun e2 => ?_) (fun e2 => ?_)
    · have e2 : (j : Int) < ((r8.cut 0 ((i : Int)).toNat 7).len : Int) := e2
      rw [Int.toNat_natCast] at e2
      have hji : j < i := by omega
      have hjp : j < ps.length := by omega
      obtain ⟨v, hv⟩ : ∃ v : Nat, ps[j] = (v : Int) := ⟨ps[j].toNat, by have := h0 ps[j] (by simp); omega⟩
      have hvx : v < xss.length := by have := (hin ps[j] (by simp)).2; omega
      have hv4 : v < 4 := by omega
      obtain ⟨dj, hdj, hdj1, hdj2⟩ := hDat j hjp
      rw [hv] at hdj1 hdj2
      rw [Int.toNat_natCast] at hdj2
      have e2' : (j : Int) < ((r8.cut 0 ((i : Int)).toNat 7).len : Int) := by rw [Int.toNat_natCast]; exact e2
      refine ⟨⟨Int.natCast_nonneg j, e2'⟩, ?_⟩
      have hpre' : Arr k' kexploredone (r8.cut 0 ((i : Int)).toNat 7) (D.take i) := by rw [Int.toNat_natCast]; exact hpre
      refine hpre'.at (Int.natCast_nonneg j) e2' rfl fun y hy => ?_
      rw [Int.toNat_natCast, List.getElem?_take, if_pos hji, hdj] at hy
      obtain rfl := Option.some.inj hy
      have bnd : 0 ≤ dj.1 ∧ dj.1 < (4 : Int) := bnd4 hdj1 hv4
      have hd1n : dj.1.toNat = v := by rw [hdj1]; exact Int.toNat_natCast v
      refine ⟨bnd, bnd, ?_⟩
      have hcj := cnt_le ps j v
      have hpv : w64 (ag4 past dj.1.toNat + 1) = ((cnt (ps.take j) v + 1 : Nat) : Int) := by
        rw [hd1n, (hI v hv4).2, w64_of (by omega) (by omega)]; rfl
      have htk : ps.take (j + 1) = ps.take j ++ [(v : Int)] := by rw [take_succ' ps hjp, hv]
      have hevs : evL (ps.take (j + 1)) = evL (ps.take j) ++ [((v : Int), cnt (ps.take j) v)] := by rw [htk, evL_snoc, Int.toNat_natCast]
      have hpast : ∀ x < 4, ag4 (aset (n := 4) (a := ki) past dj.1.toNat (w64 (ag4 past dj.1.toNat + 1))) x = (cnt (ps.take (j + 1)) x : Int) := fun x hx => by
        rw [hpv, hd1n, ag4_set past hx, htk, cnt_app, cnt_one]
        by_cases z : x = v
        · subst z; rw [if_pos rfl, if_pos rfl]
        · rw [if_neg z, if_neg (by omega), (hI x hx).2]; rfl
      have fin : ∀ c : Bool, (c = true ↔ bd ((v : Int), cnt (ps.take j) v) f = true) → explore_Kin.j2 go2 ((j : Int), ((b, ub), ((past, up), u2))) dj (c, ()) k' := fun c hcb => by
        refine bcs (fun z => ?_) (fun z => ?_)
        · have z : c = true := z
          refine ⟨bnd, bnd, hgo2 hji _ _ (w64_up' (n := i) hji (by omega)) ⟨rfl, fun x hx => ⟨?_, hpast x hx⟩⟩⟩
          show ag4 (aset (n := 4) (a := ki) b dj.1.toNat (ag4 (aset (n := 4) (a := ki) past dj.1.toNat (w64 (ag4 past dj.1.toNat + 1))) dj.1.toNat)) x = _
          rw [ag4_set b hx, hd1n]
          have := hpast v hv4
          rw [hd1n] at this
          rw [hevs, bfF_snoc, this]
          by_cases y : x = v
          · subst y
            rw [if_pos rfl, if_pos ⟨rfl, hcb.1 z⟩, htk, cnt_app, cnt_one, if_pos rfl]
          · rw [if_neg y, if_neg (fun q => y (by have := q.1; omega)), (hI x hx).1]
        · have z : c = false := z
          refine hgo2 hji _ _ (w64_up' (n := i) hji (by omega)) ⟨rfl, fun x hx => ⟨?_, hpast x hx⟩⟩
          rw [hevs, bfF_snoc, if_neg (fun q => by rw [hcb.2 q.2] at z; cases z), (hI x hx).1]
      have hbq : ∀ P : Prop, (P ↔ DepI size (bg.len : Int) dj.2.2.1.2.1 dj.2.2.1.2.2.1 dj.2.2.1.2.2.2.1 di.2.2.1.2.1 di.2.2.1.2.2.1 di.2.2.1.2.2.2.1) → (bd ((v : Int), cnt (ps.take j) v) f = true ↔ (v : Int) = (w : Int) ∨ P) := fun P hP => by
        rw [← hbd, hP, hdj2, hd2, hbg, ← hf]
        unfold bdE bdA gE
        dsimp only
        rw [decide_eq_true_eq, Int.toNat_natCast, Int.toNat_natCast]
      refine dcs (fun e3 => fin true ⟨fun _ => (hbq _ Iff.rfl).2 (.inl (by rw [← hdj1, ← hd1]; exact e3)), fun _ => rfl⟩) (fun e3 => iD fun c hcb => fin c ?_)
      rw [hbq _ hcb]
      exact ⟨.inr, fun z => z.resolve_left (fun q => e3 (by rw [hdj1, hd1]; exact q))⟩
    · have e2 : ¬ (j : Int) < ((r8.cut 0 ((i : Int)).toNat 7).len : Int) := e2
      rw [Int.toNat_natCast] at e2
      obtain rfl : j = i := by omega
      have hdw : di.1.toNat = w := by rw [hd1]; exact Int.toNat_natCast w
      have hb : b = rowB bd ps f := ka4_ext fun x hx => by rw [(hI x hx).1, rowB_at bd ps f hx, hbE]
      have bn6 : 0 ≤ di.1 ∧ di.1 < (s6.len : Int) := bndN hd1 (by omega)
      have hwe : w < els.length := by omega
      have hew : els[w]? = some els[w] := by simp
      have hrw : (kRows bd ps xss.length j)[w]? = some (kRow bd ps j w) := by unfold kRows; rw [List.getElem?_map, List.getElem?_range hwx]; rfl
      have hrow := n.row w _ _ hew hrw
      have hrl := hrow.len
      have hkrl : (kRow bd ps j w).length = cnt (ps.take j) w := by simp [kRow]
      have hcj := cnt_le ps j w
      refine ⟨bn6, n.out.arr.at bn6.1 bn6.2 rfl fun y hy => ?_⟩
      rw [hdw, hew] at hy
      obtain rfl := Option.some.inj hy
      refine hrow.app3 (k := ka4) (x := b) rfl rfl (show (els[w].len + 1) * 32 ≤ _ by omega) fun t3 h3 n3 x3 b3 => ⟨bn6, ?_⟩
      refine n.put (p := di.1) (i := w) hd1 hew n3 x3 b3 rfl fun h4 n4 st4 => ?_
      have bnd : 0 ≤ di.1 ∧ di.1 < (4 : Int) := bnd4 hd1 hw4
      refine ⟨bnd, bnd, ?_⟩
      have htk : ps.take (j + 1) = ps.take j ++ [(w : Int)] := by rw [take_succ' ps hip, hw]
      have hnew : (kRows bd ps xss.length j).set w (kRow bd ps j w ++ [b]) = kRows bd ps xss.length (j + 1) := by
        apply List.ext_getElem
        · simp [kRows]
        · intro x y1 y2
          rw [List.getElem_set]
          rw [kRows_at, kRows_at]
          unfold kRow
          rw [htk, cnt_app, cnt_one]
          by_cases z : w = x
          · subst z
            rw [if_pos rfl, if_pos rfl, List.range_succ, List.map_append, hb, ← hf]; rfl
          · rw [if_neg z, if_neg (by omega), Nat.add_zero]
      rw [hnew] at n4
      have hcount : w64 (ag4 at' di.1.toNat + 1) = ((cnt (ps.take j) w + 1 : Nat) : Int) := by
        rw [hdw, hat w hw4, w64_of (by omega) (by omega)]; rfl
      refine hgo hip _ _ (w64_up' (n := ps.length) hip (by omega)) ⟨⟨_, n4, st4.off ap fun x hx => m.own.live x hx, m.ext st4.1 ap fun x q => n.fresh q⟩, fun x hx => ?_⟩
      show ag4 (aset (n := 4) (a := ki) at' di.1.toNat (w64 (ag4 at' di.1.toNat + 1))) x = _
      rw [hcount, hdw, ag4_set at' hx, htk, cnt_app, cnt_one]
      by_cases z : x = w
      · subst z; rw [if_pos rfl, if_pos rfl]
      · rw [if_neg z, if_neg (by omega), hat x hx]; rfl
  · have e : ¬ (i : Int) < (r8.len : Int) := e
    obtain rfl : i = ps.length := by omega
    rw [List.take_length] at hat
    have hatk : at' = ky (cnt ps) := ka4_ext fun x hx => by rw [hat x hx, ky_at _ hx]
    refine fun mb hmb => ⟨[], ⟨#[], 0, by unfold upd; rw [if_pos rfl], rfl⟩, fun h36 q1 q2 => ?_⟩
    have hag : Ag mb k h36 := fun c hc => by rw [q2 c hc]; unfold upd; rw [if_neg hc]
    have hbef : Bef k s6 (bfE bd ps) xss.length (cnt ps) := ⟨els, n.out.arr, by omega, fun o ho sl hsl => ⟨kRow bd ps ps.length o, (n.row o sl _ hsl (by unfold kRows; rw [List.getElem?_map, List.getElem?_range ho]; rfl)).arr, by unfold kRow; rw [List.length_map, List.length_range, List.take_length], fun q v hv x hx => by
      unfold kRow at hv
      rw [List.getElem?_map] at hv
      have hq : q < cnt (ps.take ps.length) o := by
        rcases Nat.lt_or_ge q (cnt (ps.take ps.length) o) with z | z
        · exact z
        · rw [List.getElem?_eq_none (by simpa using z)] at hv; cases hv
      rw [List.getElem?_range hq] at hv
      have hv : rowB bd ps ((o : Int), q) = v := Option.some.inj hv
      rw [← hv, rowB_at _ _ _ hx]⟩⟩
    show cW s6 at' (some mb) h36 _
    rw [hatk]
    refine iW hbef hx4 hmb (sumN_cnt hin) h10 (fun w => Nat.le_refl _) (fun w hw => cnt_none hin hw) hag ⟨_, q1, ?_, fun g hg v hv => ?_⟩ fun h38 hag2 => hQ' h38 ((l1.trans n.le).trans (hag2.le hmb))
    · rw [mGet_put eq_ka4]
      have : eqK ka4 (ky fun _ => 0) (Kd.zero ka4) = true := (eq_ka4 _ _).2 rfl
      rw [this]; rfl
    · rw [mGet_put eq_ka4] at hv
      cases eq : eqK ka4 (ky g) (Kd.zero ka4) with
      | false => rw [eq] at hv; cases hv
      | true =>
        rw [eq] at hv
        have : g = fun _ => 0 := ky_inj hx4 hg (fun _ _ => rfl) ((eq_ka4 _ _).1 eq)
        subst this
        have hz2 : sumN xss.length (fun _ => 0) = 0 := by
          unfold sumN
          rw [List.map_const', List.sum_replicate_nat]; omega
        rw [hz2]
        exact (Option.some.inj hv).symm
end
end Go.Mx
