/-
  hist.Order: the search goes down.
-/
import Derived.Test.YtanfmmcpjifgiaaMxHc
set_option linter.unusedVariables false
set_option linter.unusedSimpArgs false
namespace Go.Mx

theorem New.pre {h0 h : Heap} {k : Kd} {s : Sl} {xs ys : List (Den k)} (o : New h0 h k s (xs ++ ys)) {n sz : Nat} (e : xs.length = n) : New h0 h k (s.cut 0 n sz) xs := by
  rw [cut_zero]
  have hl := o.len
  rw [List.length_append] at hl
  refine ⟨?_, e, o.le, fun b hb => o.new b hb⟩
  rcases o.own with ⟨rfl, e2⟩ | ⟨b, e1, e2, e3, z, e4, e5⟩
  · have := List.append_eq_nil_iff.1 e2
    obtain ⟨rfl, _⟩ := this
    subst e
    exact .inl ⟨rfl, rfl⟩
  · rw [List.length_append] at e2 e3 e4
    refine .inr ⟨b, e1, by dsimp only; omega, by dsimp only; omega, ys.flatMap k.cells ++ z, ?_, ?_⟩
    · rw [List.length_append, flat_len, e4, ← Nat.add_mul]
      congr 1
      dsimp only
      omega
    · rw [e5, List.flatMap_append, List.append_assoc]

section
variable {h0 h : Heap} {b m : Nat} {calls : Sl} {most : Int} {by' : Fin 4 → Sl} {o : Sl} {cs : List Cl} {ml : List (Den kt4 × Int)} {os : List Int} (r : SrR h0 h b m calls most by' o cs ml os)
include r
theorem SrR.moved {h' : Heap} {o' : Sl} {ml' : List (Den kt4 × Int)} {os' : List Int} (st : Step (fpQ b m o) (fpQ b m o') h h') (q1 : Obj h' b khistsearch (calls, (most, (by', (some m, (o', ())))))) (q2 : MapIs h' m kt4 ki ml') (q3 : New h0 h' ki o' os')
    (q4 : ¬ blkOf o' b) (q5 : ¬ blkOf o' m) : SrR h0 h' b m calls most by' o' cs ml' os' :=
  ⟨q1, q2, q3, r.ne, r.nb, r.nm, q4, q5, r.cal.keep (by decide) st, fun w hw => (r.bys w hw).keep (by decide) st⟩
theorem SrR.put {h' : Heap} {ml' : List (Den kt4 × Int)} (q1 : MapIs h' m kt4 ki ml') (q2 : ∀ c, c ≠ m → h' c = h c) : SrR h0 h' b m calls most by' o cs ml' os ∧ Step (fpQ b m o) (fpQ b m o) h h' := by
  have x : Ext (· = m) h h' := ⟨fun x y e hn => by rw [q2 x hn]; exact e, fun x e => by
    by_cases c : x = m
    · subst c
      obtain ⟨es, k, e1, _⟩ := q1
      rw [e1] at e; cases e
    · rw [← q2 x c]; exact e⟩
  have st : Step (fpQ b m o) (fpQ b m o) h h' := ⟨x.mono fun x q => .inr (.inl q), fun x q => .inl q⟩
  have f : ∀ x, x = m → h0 x = none := fun x q => by subst q; exact r.nm
  exact ⟨r.moved st (r.obj.ext x (fun e => r.ne e.symm)) q1 (r.ord.ext x (fun x p q => by subst q; exact r.om p) f) r.ob r.om, st⟩
theorem SrR.setO {h' : Heap} {o' : Sl} {os' : List Int} (q1 : Obj h' b khistsearch (calls, (most, (by', (some m, (o', ())))))) (q3 : New h0 h' ki o' os') (x : Ext (fun x => x = b ∨ blkOf o x) h h') (q4 : ∀ x, blkOf o' x → blkOf o x ∨ h x = none) :
    SrR h0 h' b m calls most by' o' cs ml os' ∧ Step (fpQ b m o) (fpQ b m o') h h' := by
  have st : Step (fpQ b m o) (fpQ b m o') h h' := by
    refine ⟨x.mono fun x q => ?_, fun x q => ?_⟩
    · rcases q with q | q
      · exact .inl q
      · exact .inr (.inr q)
    · rcases q with q | q | q
      · exact .inl (.inl q)
      · exact .inl (.inr (.inl q))
      · rcases q4 x q with c | c
        · exact .inl (.inr (.inr c))
        · exact .inr c
  have lm : h m ≠ none := r.live (.inr (.inl rfl))
  refine ⟨r.moved st q1 ?_ q3 (fun q => ?_) (fun q => ?_), st⟩
  · obtain ⟨es, c, e, f⟩ := r.map
    refine ⟨es, c, x.1 m _ e (fun q => ?_), f⟩
    rcases q with q | q
    · exact r.ne q
    · exact r.om q
  · rcases q4 b q with c | c
    · exact r.ob c
    · exact r.obj.live c
  · rcases q4 m q with c | c
    · exact r.om c
    · exact lm c
/-- A call's number joins the order. -/
theorem SrR.push {i : Int} (hl : os.length ≤ 1000) {K : Heap → Prop} (hK : ∀ o' h', SrR h0 h' b m calls most by' o' cs ml (os ++ [i]) → Step (fpQ b m o) (fpQ b m o') h h' → K h') :
    ld .sl h ((ptr b).add 7) fun t34 => new h ([i].flatMap (Kd.cells ki)) fun p35 h36 => appendM 1 8 h36 t34 ⟨some p35, 1, 1⟩ fun t37 h38 => deref (some (ptr b)) fun a39 => Go.Mx.st .sl h38 (a39.add 7) t37 K := by
  have hol := r.ord.len
  refine r.ld7 (r.ord.app3 rfl rfl (by omega) fun t h2 n2 x2 b2 => ?_)
  have q2 : Obj h2 b khistsearch (calls, (most, (by', (some m, (o, ()))))) := r.obj.ext x2 r.ob
  show Go.Mx.st .sl h2 ((ptr b).add 7) t K
  refine q2.st (kf := .sl) (off := 7) (v := t) (x' := (calls, (most, (by', (some m, (t, ())))))) rfl (by decide) rfl fun h3 q3 x3 => ?_
  have bt : ¬ blkOf t b := fun q => by
    rcases b2 b q with c | c
    · exact r.ob c
    · exact r.obj.live c
  obtain ⟨r', s'⟩ := r.setO q3 (n2.ext x3 (fun x p q => by subst q; exact bt p) (fun x q => by subst q; exact r.nb)) ((x2.mono fun x q => .inr q).trans (x3.mono fun x q => .inl q)) b2
  exact hK t h3 r' s'
/-- .. and leaves it. -/
theorem SrR.pop {i : Int} {os0 : List Int} (e : os = os0 ++ [i]) (hl : os.length ≤ 1000) {K : Heap → Prop} (hK : ∀ o' h', SrR h0 h' b m calls most by' o' cs ml os0 → Step (fpQ b m o) (fpQ b m o') h h' → K h') :
    ld .sl h ((ptr b).add 7) fun t45 => ld .sl h ((ptr b).add 7) fun t46 => (0 ≤ (w64 ((t46.len : Int) - 1)) ∧ (w64 ((t46.len : Int) - 1)) ≤ (t45.cap : Int)) ∧ deref (some (ptr b)) fun a47 => Go.Mx.st .sl h (a47.add 7) (t45.cut 0 (((w64 ((t46.len : Int) - 1)) : Int).toNat) 1) K := by
  have hol := r.ord.len
  have hcap : o.len ≤ o.cap := r.ord.arr.2.1
  subst e
  rw [List.length_append] at hol hl
  have hol : os0.length + 1 = o.len := hol
  have hl : os0.length + 1 ≤ 1000 := hl
  have w : w64 ((o.len : Int) - 1) = (os0.length : Int) := by rw [w64_of] <;> omega
  refine r.ld7 (r.ld7 ?_)
  rw [w, Int.toNat_natCast]
  refine ⟨⟨by omega, by omega⟩, ?_⟩
  show Go.Mx.st .sl h ((ptr b).add 7) (o.cut 0 os0.length 1) K
  have n0 := r.ord.pre (n := os0.length) (sz := 1) rfl
  refine r.obj.st (kf := .sl) (off := 7) (v := o.cut 0 os0.length 1) (x' := (calls, (most, (by', (some m, (o.cut 0 os0.length 1, ())))))) rfl (by decide) rfl fun h3 q3 x3 => ?_
  have bc : ∀ x, blkOf (o.cut 0 os0.length 1) x → blkOf o x := fun x q => by rw [cut_zero] at q; exact q
  obtain ⟨r', s'⟩ := r.setO q3 (n0.ext x3 (fun x p q => by subst q; exact r.ob (bc _ p)) (fun x q => by subst q; exact r.nb)) (x3.mono fun x q => .inl q) (fun x q => .inl (bc x q))
  exact hK _ h3 r' s'
end

theorem from_spec {h0 : Heap} {b m : Nat} {calls : Sl} {most : Int} {by' : Fin 4 → Sl} {cs : List Cl} (hH : HistN cs cs.length) (hl : cs.length ≤ 40)
    {F : Option Addr → (Fin 4 → Int) → Sl → Heap → (Bool → Heap → Prop) → Prop} {c1 : Option Addr → (Fin 4 → Int) → Heap → (Bool → Heap → Prop) → Prop} {c2 : Sl → Cl → Int → Heap → ((Sl × (Bool × Unit)) → Heap → Prop) → Prop} {c3 : Option Addr → (Fin 4 → Int) → Cl → Heap → (Bool → Heap → Prop) → Prop}
    (i1 : ∀ {a t h Q}, hist_search_done.M a t h Q → c1 a t h Q) (i2 : ∀ {a b c h Q}, hist_row_does.M a b c h Q → c2 a b c h Q) (i3 : ∀ {a t c h Q}, hist_search_waits.M a t c h Q → c3 a t c h Q) (iF : ∀ {a t s h Q}, hist_search_from.M c1 c2 c3 F a t s h Q → F a t s h Q) :
    ∀ (n : Nat) {h : Heap} {o : Sl} {ml : List (Den kt4 × Int)} {os : List Int} {t : Nat → Nat} {xs : List Int} {held : Sl} {Q : Bool → Heap → Prop}, cs.length - sum4 t ≤ n → SrR h0 h b m calls most by' o cs ml os → os.length = sum4 t → Rch cs most t xs → Calm h b m o ki held xs →
      (∀ t', Met ml t' → sum4 t ≤ sum4 t' → Dead cs most t') →
      (∀ h' o' ml' is t' xs', SrR h0 h' b m calls most by' o' cs ml' (os ++ iL is) → Step (fpQ b m o) (fpQ b m o') h h' → Way cs most t xs is t' xs' → DoneS cs t' → Q true h') →
      (∀ h' o' ml', SrR h0 h' b m calls most by' o' cs ml' os → Step (fpQ b m o) (fpQ b m o') h h' → ¬ LiveS cs most t xs → (∀ t', Met ml' t' → Met ml t' ∨ Dead cs most t') → Q false h') →
      F (some (ptr b)) (tk t) held h Q := by
  intro n
  induction n using Nat.strongRecOn with
  | _ n ih =>
  intro h o ml os t xs held Q hn r hos hR hheld hmet hT hF
  obtain ⟨hsum, hfit⟩ := hR.fits
  have hxl := hR.len
  refine iF (i1 (done_spec r hfit hl fun d hd => ⟨fun e => ?_, fun e => ?_⟩))
  · exact hT h o ml [] t xs (by rw [show iL [] = [] from rfl, List.append_nil]; exact r) (.refl _ _) (.nil _ _) (hd.1 e)
  have hnd : ¬ DoneS cs t := fun q => by rw [hd.2 q] at e; cases e
  clear e hd
  refine r.ld6 ⟨ml, r.map, ⟨fun e => ?_, fun e => ?_⟩⟩
  · have e' := of_decide_eq_true e
    have e : Met ml t := e'
    exact hF h o ml r (.refl _ _) (hmet t e (Nat.le_refl _) xs hR) fun t' q => .inl q
  clear e
  refine r.ld6 ⟨ml, r.map, fun h1 hm1 hm2 => ?_⟩
  obtain ⟨r1, s1⟩ := r.put hm1 hm2
  have held1 := hheld.keep (by decide) s1
  refine r1.ld2 ?_
  refine Loop.up 4 (fun s => s.1) (fun w s k => ∃ o' ml', SrR h0 k b m calls most by' o' cs ml' os ∧ Step (fpQ b m o) (fpQ b m o') h k ∧ Calm k b m o' ki held xs ∧ (∀ t', Met ml' t' → Met ml t' ∨ tk t' = tk t ∨ Dead cs most t') ∧
    ∀ w' i c, w' < w → Sx cs most t xs w' i c → ¬ LiveS cs most (bump t w') (doL xs c most).1) rfl ⟨o, _, r1, s1, held1, fun t' q => ?_, fun w' i c hw => absurd hw (Nat.not_lt_zero _)⟩ ?_
  · rcases (met_put ml t t').1 q with c | c
    · exact .inr (.inl c)
    · exact .inl c
  rintro w ⟨w', u⟩ k go hw hc ⟨o', ml', r2, s2, held2, hm, hdead⟩ hgo
  dsimp only at hc; subst hc
  refine ⟨fun e => ?_, fun e => ?_⟩
  · have e : (w : Int) < 4 := of_decide_eq_true e
    have hw4 : w < 4 := by omega
    have hb4 : (0 : Int) ≤ (w : Int) ∧ (w : Int) < (4 : Int) := by omega
    have hby := r2.bys w hw4
    have hlen : (iL (byL cs w)).length = (aget (n := 4) (a := .sl) by' w).len := hby.arr.1
    have hlen' : (byL cs w).length = (aget (n := 4) (a := .sl) by' w).len := by rw [← hlen]; simp [iL]
    have hfw := hfit w
    have hbl := byL_len cs w
    dsimp only
    rw [Int.toNat_natCast, tk_at t hw4]
    -- on to the next actor
    have next : ∀ {k' : Heap} {o'' : Sl} {ml''}, SrR h0 k' b m calls most by' o'' cs ml'' os → Step (fpQ b m o) (fpQ b m o'') h k' → Calm k' b m o'' ki held xs → (∀ t', Met ml'' t' → Met ml t' ∨ tk t' = tk t ∨ Dead cs most t') →
        (∀ i c, Sx cs most t xs w i c → ¬ LiveS cs most (bump t w) (doL xs c most).1) → hist_search_from.j1 go ((w : Int), u) () k' := fun {k' o'' ml''} a1 a2 a3 a4 a5 => by
      refine hgo hw4 _ _ (by show w64 ((w : Int) + 1) = _; rw [w64_of] <;> omega) ⟨o'', ml'', a1, a2, a3, a4, fun w' i c hw' hs => ?_⟩
      by_cases q : w' = w
      · subst q; exact a5 i c hs
      · exact hdead w' i c (by omega) hs
    refine ⟨hb4, hb4, ⟨fun f => ?_, fun f => ?_⟩⟩
    · have f : ((aget (n := 4) (a := .sl) by' w).len : Int) ≤ (t w : Int) := of_decide_eq_true f
      exact next r2 s2 held2 hm fun i c hs => by
        have := (List.getElem?_eq_some_iff.1 hs.2.1).1
        omega
    · have f : ¬ ((aget (n := 4) (a := .sl) by' w).len : Int) ≤ (t w : Int) := of_decide_eq_false f
      have hbt : (0 : Int) ≤ (t w : Int) ∧ (t w : Int) < ((aget (n := 4) (a := .sl) by' w).len : Int) := by omega
      refine ⟨hb4, hbt, hby.arr.at hbt.1 hbt.2 rfl fun v hv => ?_⟩
      rw [Int.toNat_natCast] at hv
      obtain ⟨i, hi, rfl⟩ := iL_at.1 hv
      obtain ⟨c, hc, _⟩ := byL_at hi
      have hil := (List.getElem?_eq_some_iff.1 hc).1
      have hcl : cs.length = calls.len := r2.cal.arr.1
      have hbi : (0 : Int) ≤ (i : Int) ∧ (i : Int) < (calls.len : Int) := by omega
      refine r2.ld0 ⟨hbi, r2.cal.arr.at hbi.1 hbi.2 rfl fun c' hc' => ?_⟩
      rw [Int.toNat_natCast, hc] at hc'; cases hc'
      have hsnd := (hH i c hil hc).1
      obtain ⟨dd1, dd2⟩ := does_do2 xs c most hsnd
      have hhl := held2.arr.1
      refine r2.ld1 (i2 (does_spec held2.arr (by omega) fun l b' s h3 hdo harr hle hfr => ?_))
      have r3 := r2.more hle
      have held3 : Calm h3 b m o' ki held xs := ⟨held2.arr.le hle, held2.off⟩
      have s3 : Step (fpQ b m o) (fpQ b m o') h h3 := s2.trans ⟨hle.toExt, fun x q => .inl q⟩
      rw [hdo] at dd1 dd2
      dsimp only at dd1 dd2
      refine ⟨fun g => ?_, fun g => ?_⟩
      · have g : b' = false := by simpa using g
        refine ⟨fun _ => next r3 s3 held3 hm fun i' c' hs => ?_, fun q => (by cases q)⟩
        obtain ⟨_, q2, q3, q4, _⟩ := hs
        rw [hi] at q2; cases q2
        rw [hc] at q3; cases q3
        rw [← dd1, g] at q4; cases q4
      · have g : b' = true := by simpa using g
        refine i3 (waits_spec r3 hfit hl c fun d hd => ⟨fun q => ?_, fun q => ?_⟩)
        · refine next r3 s3 held3 hm fun i' c' hs => ?_
          obtain ⟨_, q2, q3, q4, q5⟩ := hs
          rw [hi] at q2; cases q2
          rw [hc] at q3; cases q3
          exact absurd (hd.1 q) q5
        · have q : d = false := q
          have sx : Sx cs most t xs w i c := ⟨hw4, hi, hc, by rw [← dd1]; exact g, fun hw => by rw [hd.2 hw] at q; cases q⟩
          have hrow : l = (doL xs c most).1 := dd2 (by rw [← dd1]; exact g)
          have hR2 := hR.step sx
          have hs2 := sum4_bump (t := t) hw4
          have hsum2 := hR2.fits.1
          -- the call is taken
          refine r3.push (by omega) fun o4 h4 r4 s4 => ?_
          have newc : Calm h3 b m o' ki s l := ⟨harr, fun _ x p q => r2.live q (hfr x p)⟩
          have newc4 := newc.keep (by decide) s4
          rw [hrow] at newc4
          have held4 := held3.keep (by decide) s4
          refine ⟨hb4, hb4, ?_⟩
          show F (some (ptr b)) (aset (n := 4) (a := ki) (tk t) ((w : Int)).toNat (w64 (aget (n := 4) (a := ki) (tk t) ((w : Int)).toNat + 1))) s h4 _
          rw [Int.toNat_natCast, tk_bump t hw4 (by omega)]
          refine ih (cs.length - sum4 (bump t w)) (by omega) (Nat.le_refl _) r4 (by rw [List.length_append, hos, hs2]; rfl) hR2 newc4 (fun t' q hle => ?_) (fun h5 o5 ml5 is t' xs' r5 s5 hW hD => ?_) (fun h5 o5 ml5 r5 s5 hnl hm5 => ?_)
          · rcases hm t' q with c | c | c
            · exact hmet t' c (by omega)
            · have : sum4 t' = sum4 t := by
                unfold sum4
                rw [tk_inj c (by decide : 0 < 4), tk_inj c (by decide : 1 < 4), tk_inj c (by decide : 2 < 4), tk_inj c (by decide : 3 < 4)]
              omega
            · exact c
          · refine ⟨fun _ => hT h5 o5 ml5 (i :: is) t' xs' ?_ ((s3.trans s4).trans s5) (.cons sx hW) hD, fun q => (by cases q)⟩
            rw [List.append_assoc] at r5
            exact r5
          · refine ⟨fun q => (by cases q), fun _ => ?_⟩
            refine r5.pop rfl (by rw [List.length_append, hos]; show sum4 t + 1 ≤ 1000; omega) fun o6 h6 r6 s6 => ?_
            have held6 := (held4.keep (by decide) s5).keep (by decide) s6
            refine next r6 (((s3.trans s4).trans s5).trans s6) held6 (fun t' q => ?_) fun i' c' hs => ?_
            · rcases hm5 t' q with c | c
              · exact hm t' c
              · exact .inr (.inr c)
            · obtain ⟨_, q2, q3, _⟩ := hs
              rw [hi] at q2; cases q2
              rw [hc] at q3; cases q3
              exact hnl
  · have e : ¬ (w : Int) < 4 := of_decide_eq_false e
    have hnl : ¬ LiveS cs most t xs := by
      rintro ⟨is, t', xs', hW, hD⟩
      cases hW with
      | nil => exact hnd hD
      | cons hs hW =>
        rename_i w'' i' c' is'
        exact hdead w'' i' c' (by have := hs.1; omega) hs ⟨_, _, _, hW, hD⟩
    refine hF k o' ml' r2 s2 hnl fun t' q => ?_
    rcases hm t' q with c | c | c
    · exact .inl c
    · refine .inr fun xs' hR' => ?_
      obtain rfl := hR'.same hR c
      obtain rfl := hR.one hH hR'
      exact hnl
    · exact .inr c

end Go.Mx
