/-
  How many scripts are alike: the walk of the count.
-/
import Derived.Test.YtanfmmcpjifgiabMxKk
set_option linter.unusedVariables false
set_option linter.unusedSimpArgs false
set_option linter.unusedSectionVars false
namespace Go.Mx

/-! ### maps -/
def mGet (kk : Kd) {β : Type} (l : List (Den kk × β)) (key : Den kk) : Option β := (fi kk key l 0).map (·.2)
theorem fi_shift' {kk : Kd} {β : Type} {key : Den kk} : ∀ (l : List (Den kk × β)) (i : Nat), fi kk key l (i + 1) = (fi kk key l i).map fun p => (p.1 + 1, p.2)
  | [], i => rfl
  | p :: l, i => by
    simp only [fi]
    cases eqK kk key p.1
    · exact fi_shift' l (i + 1)
    · rfl
theorem mGet_cons {kk : Kd} {β : Type} {key : Den kk} (p : Den kk × β) (l : List (Den kk × β)) : mGet kk (p :: l) key = bif eqK kk key p.1 then some p.2 else mGet kk l key := by
  unfold mGet
  simp only [fi]
  cases eqK kk key p.1
  · simp only [cond_false]
    rw [fi_shift', Option.map_map]; rfl
  · rfl
theorem mGet_put {kk : Kd} (hq : ∀ x y : Den kk, eqK kk x y = true ↔ x = y) {β : Type} (key : Den kk) (v : β) (k' : Den kk) : ∀ (l : List (Den kk × β)), mGet kk (mapPutL kk l key v) k' = bif eqK kk k' key then some v else mGet kk l k'
  | [] => by
    show mGet kk [(key, v)] k' = _
    rw [mGet_cons]
  | p :: l => by
    have ih := mGet_put hq key v k' l
    unfold mapPutL at ih ⊢
    simp only [fi]
    cases e : eqK kk key p.1
    · simp only [cond_false]
      rw [fi_shift']
      cases f : fi kk key l 0 with
      | none =>
        rw [f] at ih
        dsimp only [Option.map] at ih ⊢
        rw [List.cons_append, mGet_cons, ih, mGet_cons]
        cases e1 : eqK kk k' p.1
        · rfl
        · cases e2 : eqK kk k' key
          · rfl
          · have h1 := (hq k' p.1).1 e1
            have h2 := (hq k' key).1 e2
            rw [(hq key p.1).2 (h2.symm.trans h1)] at e; cases e
      | some q =>
        rw [f] at ih
        dsimp only [Option.map] at ih ⊢
        rw [List.set_cons_succ, mGet_cons, ih, mGet_cons]
        cases e1 : eqK kk k' p.1
        · rfl
        · cases e2 : eqK kk k' key
          · rfl
          · have h1 := (hq k' p.1).1 e1
            have h2 := (hq k' key).1 e2
            rw [(hq key p.1).2 (h2.symm.trans h1)] at e; cases e
    · simp only [cond_true]
      rw [List.set_cons_zero, mGet_cons, mGet_cons]
      have h1 := (hq key p.1).1 e
      show (bif eqK kk k' key then some v else mGet kk l k') = _
      rw [← h1]
      cases eqK kk k' key <;> rfl

abbrev ka4 : Kd := .arr 4 ki
theorem eq_ka4 (x y : Den ka4) : eqK ka4 x y = true ↔ x = y := by
  constructor
  · intro h
    simp only [eqK, List.all_eq_true, List.mem_finRange, true_implies] at h
    exact funext fun i => of_decide_eq_true (h i)
  · rintro rfl
    simp [eqK]
abbrev ag4 (f : Den ka4) (i : Nat) : Int := aget (n := 4) (a := ki) f i
/-- A row of counts, as the program writes it. -/
def ky (f : Nat → Nat) : Den ka4 := fun i => (f i.val : Int)
theorem ky_at (f : Nat → Nat) {w : Nat} (h : w < 4) : ag4 (ky f) w = (f w : Int) := by
  unfold ag4 aget; rw [dif_pos h]; rfl
theorem ky_dec (f : Nat → Nat) {w : Nat} (h : w < 4) (h0 : f w ≠ 0) (hb : f w ≤ 1000000) : aset (n := 4) (a := ki) (ky f) w (w64 (ag4 (ky f) w - 1)) = ky (dec' f w) := by
  funext i
  unfold aset
  rw [ky_at f h]
  by_cases e : i.val = w
  · rw [if_pos e]
    show w64 ((f w : Int) - 1) = ((dec' f w i.val : Nat) : Int)
    unfold dec'
    rw [if_pos e, e, w64_of (by omega) (by omega)]
    omega
  · rw [if_neg e]
    unfold ky dec'
    rw [if_neg e]
theorem ky_inj {f g : Nat → Nat} {n : Nat} (hn : n ≤ 4) (hf : ∀ w, n ≤ w → f w = 0) (hg : ∀ w, n ≤ w → g w = 0) (h : ky f = ky g) : f = g := by
  funext w
  by_cases z : w < 4
  · have := congrFun h ⟨w, z⟩
    unfold ky at this
    dsimp only at this
    exact Int.ofNat.inj this
  · rw [hf w (by omega), hg w (by omega)]
theorem ka4_part (f : Den ka4) {w : Nat} (h : w < 4) : PartAt ka4 ki w f (ag4 f w) := by
  match w, h with
  | 0, _ => exact ⟨[], _, rfl, rfl⟩
  | 1, _ => exact ⟨ki.cells (ag4 f 0), ki.cells (ag4 f 2) ++ ki.cells (ag4 f 3), rfl, rfl⟩
  | 2, _ => exact ⟨ki.cells (ag4 f 0) ++ ki.cells (ag4 f 1), ki.cells (ag4 f 3), rfl, rfl⟩
  | 3, _ => exact ⟨ki.cells (ag4 f 0) ++ ki.cells (ag4 f 1) ++ ki.cells (ag4 f 2), [], rfl, rfl⟩
theorem all_succ (f : Nat → Bool) (n : Nat) : (List.range (n + 1)).all f = ((List.range n).all f && f n) := by rw [List.range_succ, List.all_append]; simp
theorem sum_le (g : Nat → Nat) (c : Nat) (L : List Nat) (h : ∀ x ∈ L, g x ≤ c) : (L.map g).sum ≤ L.length * c := by
  induction L with
  | nil => simp
  | cons a L ih =>
    rw [List.map_cons, List.sum_cons, List.length_cons, Nat.succ_mul]
    have h1 := h a (by simp)
    have := ih fun x hx => h x (List.mem_cons_of_mem _ hx)
    omega

/-- The rows of the before-counts. -/
def Bef (h : Heap) (s6 : Sl) (B : Ev → Int → Nat) (nA : Nat) (lens : Nat → Nat) : Prop :=
  ∃ els, Arr h .sl s6 els ∧ els.length = nA ∧ ∀ o < nA, ∀ sl, els[o]? = some sl → ∃ rows : List (Den ka4), Arr h ka4 sl rows ∧ rows.length = lens o ∧ ∀ k v, rows[k]? = some v → ∀ w < 4, ag4 v w = (B ((o : Int), k) (w : Int) : Int)
theorem Bef.le {h h' : Heap} {s6 B nA lens} (b : Bef h s6 B nA lens) (l : Go.Mx.le h h') : Bef h' s6 B nA lens := by
  obtain ⟨els, b1, b2, b3⟩ := b
  refine ⟨els, b1.le l, b2, fun o ho sl hs => ?_⟩
  obtain ⟨rows, r1, r2, r3⟩ := b3 o ho sl hs
  exact ⟨rows, r1.le l, r2, r3⟩

section
variable {h0 : Heap} {s6 : Sl} {m nA : Nat} {B : Ev → Int → Nat} {lens : Nat → Nat}
def WM (m nA : Nat) (B : Ev → Int → Nat) (h : Heap) : Prop := ∃ l, MapIs h m ka4 ki l ∧ mGet ka4 l (ky fun _ => 0) = some (1 : Int) ∧ ∀ f, (∀ w, nA ≤ w → f w = 0) → ∀ v : Int, mGet ka4 l (ky f) = some v → v = (waysN B nA (sumN nA f) f : Int)
def Ag (m : Nat) (h0 h : Heap) : Prop := ∀ c, c ≠ m → h c = h0 c
theorem Ag.le {h : Heap} (a : Ag m h0 h) (hm : h0 m = none) : Go.Mx.le h0 h := fun b o e => by
  rw [a b (fun q => by rw [q, hm] at e; cases e)]; exact e
theorem sumN_zero {f : Nat → Nat} (h : sumN nA f = 0) (hf : ∀ w, nA ≤ w → f w = 0) : f = fun _ => 0 := by
  funext w
  by_cases z : w < nA
  · exact sum_zero h _ (List.mem_map_of_mem (List.mem_range.2 z))
  · exact hf w (by omega)
def wayS (B : Ev → Int → Nat) (nA n : Nat) (f : Nat → Nat) (w : Nat) : Nat := if f w = 0 then 0 else if lastOk B nA f w = true then waysN B nA n (dec' f w) else 0
theorem waysN_succ (n : Nat) (f : Nat → Nat) : waysN B nA (n + 1) f = ((List.range nA).map (wayS B nA n f)).sum := rfl
def condW (B : Ev → Int → Nat) (f : Nat → Nat) (w o k : Nat) : Bool := decide ((o ≠ w ∨ k < f w - 1) → B ((o : Int), k) (w : Int) ≤ f w - 1)
def condO (B : Ev → Int → Nat) (f : Nat → Nat) (w o : Nat) : Bool := (List.range (f o)).all (condW B f w o)
theorem lastOk_eq (f : Nat → Nat) (w : Nat) : lastOk B nA f w = (List.range nA).all (condO B f w) := rfl

theorem ways_spec {F : Sl → (Fin 4 → Int) → Option Nat → Heap → (Int → Heap → Prop) → Prop} (jF : ∀ {b a k h Q}, explore_ways.M F b a k h Q → F b a k h Q) (hB : Bef h0 s6 B nA lens) (h4 : nA ≤ 4) (hm : h0 m = none) :
    ∀ (n : Nat) (f : Nat → Nat) (h : Heap) (Q : Int → Heap → Prop), sumN nA f = n → n ≤ 10 → (∀ w, f w ≤ lens w) → (∀ w, nA ≤ w → f w = 0) → Ag m h0 h → WM m nA B h → (∀ h', Ag m h0 h' → WM m nA B h' → Q (waysN B nA n f : Int) h') → F s6 (ky f) (some m) h Q := by
  intro n
  induction n with
  | zero =>
    intro f h Q hn _ hl hz hA hW hQ
    have hf := sumN_zero hn hz
    subst hf
    obtain ⟨l, m1, m2, m3⟩ := hW
    refine jF ⟨l, m1, ?_⟩
    have e1 : ((fi ka4 (ky fun _ => 0) l 0).map (·.2)) = some (1 : Int) := m2
    rw [e1]
    refine bcs (fun _ => hQ h hA ⟨l, m1, m2, m3⟩) (fun z => ?_)
    have : (fi ka4 (ky fun _ => 0) l 0).isSome = true := by rw [← Option.isSome_map (f := fun x : Nat × Int => x.2), e1]; rfl
    rw [this] at z; cases z
  | succ n ih =>
    intro f h Q hn hb hl hz hA hW hQ
    obtain ⟨els, b1, b2, b3⟩ := hB
    have b1l := b1.1
    have hfb : ∀ w, f w ≤ 10 := fun w => by
      by_cases z : w < nA
      · by_cases y : f w = 0
        · omega
        · have := sumN_dec (at' := f) z y
          have h2 : f w ≤ sumN nA f := by
            unfold sumN
            have : ∀ L : List Nat, w ∈ L → f w ≤ (L.map f).sum := fun L => by
              induction L with
              | nil => intro q; cases q
              | cons a L ih =>
                intro q
                rw [List.map_cons, List.sum_cons]
                rcases List.mem_cons.1 q with rfl | q
                · omega
                · have := ih q; omega
            exact this _ (List.mem_range.2 z)
          omega
      · rw [hz w (by omega)]; omega
    refine jF ?_
    have hW' := hW
    obtain ⟨l, m1, m2, m3⟩ := hW
    refine ⟨l, m1, bcs (fun z => ?_) (fun z => ?_)⟩
    · have z : (mGet ka4 l (ky f)).isSome = true := by unfold mGet; rw [Option.isSome_map]; exact z
      obtain ⟨v, hv⟩ := Option.isSome_iff_exists.1 z
      have := m3 f hz v hv
      rw [hn] at this
      have e1 : ((fi ka4 (ky f) l 0).map (·.2)) = some v := hv
      rw [e1, this]
      exact hQ h hA hW'
    clear z m1 m2 m3
    have hS : ∀ w, w ≤ 4 → ((List.range w).map (wayS B nA n f)).sum ≤ 4 * 4 ^ 9 := fun w hw => by
      have := sum_le (wayS B nA n f) (4 ^ n) (List.range w) fun x _ => by
        unfold wayS
        split
        · exact Nat.zero_le _
        · split
          · exact waysN_le B nA h4 n _
          · exact Nat.zero_le _
      rw [List.length_range] at this
      have h2 : 4 ^ n ≤ 4 ^ 9 := Nat.pow_le_pow_right (by omega) (by omega)
      have h3 : w * 4 ^ n ≤ 4 * 4 ^ 9 := Nat.mul_le_mul hw h2
      omega
    refine Loop.up nA (fun s => s.2.1) (fun w st k => Ag m h0 k ∧ WM m nA B k ∧ st.1 = (((List.range w).map (wayS B nA n f)).sum : Int)) rfl ⟨hA, hW', rfl⟩ ?_
    rintro w ⟨acc, w', u⟩ k go hw hcc ⟨kA, kW, hacc⟩ hgo
    dsimp only at hcc hacc; subst hcc; subst hacc
    have hsucc : ((List.range (w + 1)).map (wayS B nA n f)).sum = ((List.range w).map (wayS B nA n f)).sum + wayS B nA n f w := by
      rw [List.range_succ, List.map_append, List.sum_append]; simp
    have hSw := hS w (by omega)
    refine dcs (fun e => ?_) (fun e => ?_)
    · have e : (w : Int) < (s6.len : Int) := e
      have hwA : w < nA := by omega
      have hw4 : w < 4 := by omega
      have bnd : (0 : Int) ≤ (w : Int) ∧ (w : Int) < (4 : Int) := by omega
      have hcell : ag4 (ky f) ((w : Int)).toNat = (f w : Int) := by rw [Int.toNat_natCast]; exact ky_at f hw4
      refine ⟨bnd, dcs (fun z => ?_) (fun z => ?_)⟩
      · have z : ag4 (ky f) ((w : Int)).toNat = 0 := z
        rw [hcell] at z
        refine hgo hwA _ _ (w64_up' (n := nA) hwA (by omega)) ⟨kA, kW, ?_⟩
        rw [hsucc]
        unfold wayS
        rw [if_pos (by omega)]
        show (((List.range w).map (wayS B nA n f)).sum : Int) = _
        unfold wayS
        omega
      · have z : ¬ ag4 (ky f) ((w : Int)).toNat = 0 := z
        rw [hcell] at z
        have hz0 : f w ≠ 0 := fun q => z (by rw [q]; rfl)
        refine ⟨bnd, bnd, ?_⟩
        have hdec : aset (n := 4) (a := ki) (ky f) ((w : Int)).toNat (w64 (ag4 (ky f) ((w : Int)).toNat - 1)) = ky (dec' f w) := by
          rw [Int.toNat_natCast]
          have := hfb w
          exact ky_dec f hw4 hz0 (by omega)
        have hdw : ag4 (ky (dec' f w)) ((w : Int)).toNat = ((f w - 1 : Nat) : Int) := by
          rw [Int.toNat_natCast, ky_at _ hw4]; unfold dec'; rw [if_pos rfl]
        have kl := kA.le hm
        refine Loop.up nA (fun s => s.2.1) (fun o st k' => k' = k ∧ st.1 = (List.range o).all (condO B f w)) rfl ⟨rfl, rfl⟩ ?_
        rintro o ⟨ok, o', u2⟩ k' go2 ho hco ⟨rfl, hok⟩ hgo2
        dsimp only at hco hok; subst hco; subst hok
        refine dcs (fun e2 => ?_) (fun e2 => ?_)
        · have e2 : (o : Int) < (s6.len : Int) := e2
          have hoA : o < nA := by omega
          have bndo : (0 : Int) ≤ (o : Int) ∧ (o : Int) < (4 : Int) := by omega
          have hocell : ag4 (ky f) ((o : Int)).toNat = (f o : Int) := by rw [Int.toNat_natCast]; exact ky_at f (by omega)
          refine ⟨⟨Int.natCast_nonneg o, e2⟩, (b1.le kl).at (Int.natCast_nonneg o) e2 rfl fun sl hsl => ⟨bndo, ?_⟩⟩
          rw [Int.toNat_natCast] at hsl
          obtain ⟨rows, r1, r2, r3⟩ := b3 o hoA sl hsl
          have r1 := r1.le kl
          have r1l := r1.1
          have hlo := hl o
          refine Loop.up (f o) (fun s => s.2.1) (fun j st k2 => k2 = k' ∧ st.1 = ((List.range o).all (condO B f w) && (List.range j).all (condW B f w o))) rfl ⟨rfl, by simp⟩ ?_
          rintro j ⟨ok2, j', u3⟩ k2 go3 hj hcj ⟨rfl, hok2⟩ hgo3
          dsimp only at hcj hok2; subst hcj; subst hok2
          refine dcs (fun e3 => ?_) (fun e3 => ?_)
          · have e3 : (j : Int) < ag4 (ky f) ((o : Int)).toNat := e3
            rw [hocell] at e3
            have hjf : j < f o := by omega
            have fin : ∀ b : Bool, b = !condW B f w o j → explore_ways.j3 go3 ((List.range o).all (condO B f w) && (List.range j).all (condW B f w o), ((j : Int), u3)) (b, ()) k2 := fun b hb => by
              refine bcs (fun y => ?_) (fun y => ?_)
              · have y : b = true := y
                refine hgo3 hjf _ _ (w64_up' (n := f o) hjf (by have := hfb o; omega)) ⟨rfl, ?_⟩
                rw [all_succ, ← Bool.and_assoc]
                rw [y] at hb
                have : condW B f w o j = false := by cases hc : condW B f w o j <;> rw [hc] at hb <;> first | rfl | cases hb
                rw [this, Bool.and_false]
              · have y : b = false := y
                refine hgo3 hjf _ _ (w64_up' (n := f o) hjf (by have := hfb o; omega)) ⟨rfl, ?_⟩
                rw [all_succ, ← Bool.and_assoc]
                rw [y] at hb
                have : condW B f w o j = true := by cases hc : condW B f w o j <;> rw [hc] at hb <;> first | rfl | cases hb
                rw [this, Bool.and_true]
            have hrj : rows[j]? = some (rows[j]'(by omega)) := by simp
            have hval := r3 j _ hrj w hw4
            obtain ⟨ar, har⟩ := r1.addr (by omega)
            have rdB : ∀ (bl : Prop) (K : Int → Prop), K (B ((o : Int), j) (w : Int) : Int) → (0 ≤ (j : Int) ∧ (j : Int) < (sl.len : Int)) ∧ deref sl.a fun a => (0 ≤ (w : Int) ∧ (w : Int) < (4 : Int)) ∧ (0 ≤ (w : Int) ∧ (w : Int) < (4 : Int)) ∧ ld ki k2 ((a.add ((j : Int).toNat * 4)).add ((w : Int).toNat * 1)) K := fun _ K hK => by
              refine ⟨by omega, ?_⟩
              rw [har]
              simp only [deref]
              refine ⟨bnd, bnd, ?_⟩
              rw [Int.toNat_natCast, Int.toNat_natCast]
              refine r1.ldPart (k := ka4) (kp := ki) har hrj (y := ag4 rows[j] w) (by rw [Nat.mul_one]; exact ka4_part _ hw4) rfl ?_
              rw [hval]; exact hK
            refine dcs (fun y => ?_) (fun y => ?_)
            · have y : (o : Int) ≠ (w : Int) := y
              refine rdB True _ (fin _ ?_)
              rw [hdec]
              show decide (ag4 (ky (dec' f w)) ((w : Int)).toNat < (B ((o : Int), j) (w : Int) : Int)) = _
              rw [hdw]
              unfold condW
              rw [← decide_not, decide_eq_decide]
              constructor
              · intro q q2
                have := q2 (.inl (fun q3 => y (by rw [q3])))
                omega
              · intro q
                have : ¬ B ((o : Int), j) (w : Int) ≤ f w - 1 := fun q3 => q fun _ => q3
                omega
            · have y : ¬ (o : Int) ≠ (w : Int) := y
              have hoe : o = w := by omega
              refine ⟨bnd, dcs (fun x => ?_) (fun x => ?_)⟩
              · refine rdB True _ (fin _ ?_)
                rw [hdec] at x ⊢
                have x : (j : Int) < ag4 (ky (dec' f w)) ((w : Int)).toNat := x
                show decide (ag4 (ky (dec' f w)) ((w : Int)).toNat < (B ((o : Int), j) (w : Int) : Int)) = _
                rw [hdw] at x ⊢
                unfold condW
                rw [← decide_not, decide_eq_decide]
                constructor
                · intro q q2
                  have := q2 (.inr (by omega))
                  omega
                · intro q
                  have : ¬ B ((o : Int), j) (w : Int) ≤ f w - 1 := fun q3 => q fun _ => q3
                  omega
              · refine fin _ ?_
                rw [hdec] at x
                have x : ¬ (j : Int) < ag4 (ky (dec' f w)) ((w : Int)).toNat := x
                rw [hdw] at x
                have : condW B f w o j = true := by
                  unfold condW
                  refine decide_eq_true fun q => ?_
                  rcases q with q | q
                  · exact absurd hoe q
                  · omega
                rw [this]; rfl
          · have e3 : ¬ (j : Int) < ag4 (ky f) ((o : Int)).toNat := e3
            rw [hocell] at e3
            obtain rfl : j = f o := by omega
            refine hgo2 hoA _ _ (w64_up' (n := nA) hoA (by omega)) ⟨rfl, ?_⟩
            rw [all_succ]; rfl
        · have e2 : ¬ (o : Int) < (s6.len : Int) := e2
          obtain rfl : o = nA := by omega
          rw [← lastOk_eq]
          refine bcs (fun y => ?_) (fun y => ?_)
          · have y : lastOk B o f w = true := y
            have hs2 := sumN_dec (at' := f) hwA hz0
            rw [hdec]
            refine ih (dec' f w) k' _ (by omega) (by omega) (fun i => ?_) (fun i hi => ?_) kA kW fun h' hA' hW' => ?_
            · have := hl i
              unfold dec'; split <;> omega
            · have := hz i hi
              unfold dec'; split <;> omega
            · have e5 : wayS B o n f w = waysN B o n (dec' f w) := by unfold wayS; rw [if_neg hz0, if_pos y]
              have hS1 := hS (w + 1) (by omega)
              rw [hsucc, e5] at hS1
              refine hgo hwA _ _ (w64_up' (n := o) hwA (by omega)) ⟨hA', hW', ?_⟩
              rw [hsucc, e5]
              show w64 ((((List.range w).map (wayS B o n f)).sum : Int) + (waysN B o n (dec' f w) : Int)) = _
              rw [w64_of (by omega) (by omega)]
              omega
          · have y : lastOk B o f w = false := y
            have e5 : wayS B o n f w = 0 := by unfold wayS; rw [if_neg hz0, if_neg (by rw [y]; exact fun q => by cases q)]
            refine hgo hwA _ _ (w64_up' (n := o) hwA (by omega)) ⟨kA, kW, ?_⟩
            rw [hsucc, e5]
            exact (Int.add_zero _).symm
    · have e : ¬ (w : Int) < (s6.len : Int) := e
      obtain rfl : w = nA := by omega
      rw [← waysN_succ]
      obtain ⟨l2, n1, n2, n3⟩ := kW
      refine ⟨l2, n1, fun h' q1 q2 => hQ h' (fun c hc => (q2 c hc).trans (kA c hc)) ⟨_, q1, ?_, fun g hg v hv => ?_⟩⟩
      · rw [mGet_put eq_ka4]
        cases eq : eqK ka4 (ky fun _ => 0) (ky f) with
        | false => exact n2
        | true =>
          exfalso
          have := ky_inj h4 (fun _ _ => rfl) hz ((eq_ka4 _ _).1 eq)
          rw [← this] at hn
          have hz2 : sumN w (fun _ => 0) = 0 := by
            unfold sumN
            rw [List.map_const', List.sum_replicate_nat]; omega
          omega
      · rw [mGet_put eq_ka4] at hv
        cases eq : eqK ka4 (ky g) (ky f) with
        | false => rw [eq] at hv; exact n3 g hg v hv
        | true =>
          rw [eq] at hv
          have := ky_inj h4 hg hz ((eq_ka4 _ _).1 eq)
          subst this
          rw [hn]
          exact (Option.some.inj hv).symm
end
end Go.Mx
