/-
  HistWitness: the law.
-/
import Derived.Test.YtanfmmcpjifgiaaMxHo
import Derived.Test.YtanfmmcpjifgiaaMxHk
set_option linter.unusedVariables false
set_option linter.unusedSimpArgs false
namespace Go.Mx

theorem td_part {h : Heap} {s : Sl} {ts : List Td} (ha : Arr h kapiTodo s ts) {i : Nat} {t : Td} (hi : ts[i]? = some t) {K1 : Addr → Int → Int → Prop} (hK : ∀ a, s.a = some a → K1 a t.1 t.2.1) :
    ∃ a, s.a = some a ∧ K1 a t.1 t.2.1 ∧ cellsAt h ((a.add (i * 2)).add 0) (Kd.cells ki t.1) ∧ cellsAt h ((a.add (i * 2)).add 1) (Kd.cells ki t.2.1) := by
  have hlt := (List.getElem?_eq_some_iff.1 hi).1
  obtain ⟨a, e1, e2, e3⟩ := td_cells ha hlt
  have : ts[i] = t := (List.getElem?_eq_some_iff.1 hi).2
  rw [this] at e2 e3
  exact ⟨a, e1, hK a e1, e2, e3⟩

theorem histWitness_spec {todos wide : Sl} {most pick : Int} {h0 : Heap} {ts : List Td} {vs : List Wi} (ha : Arr h0 kapiTodo todos ts) (hw : Arr h0 klaw4Wide wide vs) (hn : todos.len ≤ 1048576)
    {c1 : Int → Int → Heap → (Int → Heap → Prop) → Prop} {c2 : Sl → Int → Heap → ((Sl × (Sl × (Int × Unit))) → Heap → Prop) → Prop} {c3 : Sl → Int → Heap → ((Sl × (Int × Unit)) → Heap → Prop) → Prop} {c4 : Sl → Sl → Heap → (Sl → Heap → Prop) → Prop}
    {c5 : Sl → Int → Sl → Heap → (Bool → Heap → Prop) → Prop} {c6 : Sl → Int → Heap → (Sl → Heap → Prop) → Prop}
    (i1 : ∀ {x n h Q}, law4_mod.M x n h Q → c1 x n h Q)
    (i2 : ∀ {l : Sl} {m : Int} {h : Heap} {us : List Td} {Q : (Sl × (Sl × (Int × Unit))) → Heap → Prop}, Arr h kapiTodo l us → (∀ s r h', New h h' kapiCall s (csE us m) → Q (s, (r, (serE us m, ()))) h') → c2 l m h Q)
    (i3 : ∀ {l : Sl} {m : Int} {h : Heap} {us : List Cl} {Q : (Sl × (Int × Unit)) → Heap → Prop}, Arr h kapiCall l us → l.len ≤ 2097152 → (∀ r e os h', OrdR us m e os → New h h' ki r os → Q (r, (e, ())) h') → c3 l m h Q)
    (i4 : ∀ {a b h Q}, law4_widened.M c1 a b h Q → c4 a b h Q)
    (i5 : ∀ {a o : Sl} {m : Int} {h : Heap} {us : List Cl} {vs : List Int} {Q : Bool → Heap → Prop}, Arr h kapiCall a us → Arr h ki o vs → a.len ≤ 2097152 → o.len ≤ 2097152 → (∀ (b : Bool) h', (b = true ↔ OkL us m vs) → le h h' → Q b h') → c5 a m o h Q)
    (i6 : ∀ {l : Sl} {p : Int} {h : Heap} {us : List Cl} {Q : Sl → Heap → Prop}, Arr h kapiCall l us → l.len ≤ 2097152 → (∀ r h', New h h' kapiCall r (cutL p us) → Q r h') → c6 l p h Q)
    {Q : Bool → Heap → Prop} (hQ : ∀ h', le h0 h' → Q true h') : law4_HistWitness.M c1 c2 c3 c4 c5 c6 todos most wide pick h0 Q := by
  have htl : ts.length = todos.len := ha.1
  refine i1 (mod4_spec (by decide) (by decide) fun r6 m1 m2 => ?_)
  have wm : w64 (1 + r6) = 1 + r6 := by rw [w64_of] <;> omega
  -- behind the todos
  have main : ∀ (s : Sl) (h : Heap) (us : List Td), New h0 h kapiTodo s us → us.length ≤ 40 → (∀ t ∈ us, t.1 = 0 ∨ t.1 = 1 ∨ t.1 = 2) → law4_HistWitness.j8 c2 c3 c4 c5 c6 wide pick Q r6 (s, ()) h := by
    intro s h us nu hul hk
    have hsl := nu.len
    have hser : serE us (w64 (1 + r6)) = 0 := serE_ok (by omega) (by rw [wm]; omega) hk
    refine i2 nu.arr fun cl r h1 n1 => ?_
    rw [hser]
    have hm1 : 1 ≤ w64 (1 + r6) := by rw [wm]; omega
    have hcs : csE us (w64 (1 + r6)) = (runL (w64 (1 + r6)) us).1 := by unfold csE; rw [if_pos hser]
    rw [hcs] at n1
    have p := runL_plain (w64 (1 + r6)) hm1 us hk
    have hlen : (runL (w64 (1 + r6)) us).1.length = us.length := by
      have := (runL_len (w64 (1 + r6)) hm1 us us.length (Nat.le_refl _)).1
      rwa [List.take_length] at this
    have hmm : 1 ≤ w64 (1 + r6) ∧ w64 (1 + r6) ≤ 4096 := by rw [wm]; omega
    generalize (runL (w64 (1 + r6)) us).1 = cs at n1 p hlen
    have hcl := n1.len
    refine ⟨fun q => absurd rfl (of_decide_eq_true q), fun _ => ⟨fun q => ?_, fun _ => ?_⟩⟩
    · have q : (cl.len : Int) ≠ (s.len : Int) := of_decide_eq_true q
      omega
    refine i3 n1.arr (show cl.len ≤ 2097152 by omega) fun pl e os h2 R2 n2 => ?_
    have he : e = 0 := R2.1.one (.inr (.inr (.inr (.inr ⟨by omega, hmm, p.hist, ⟨_, p.legal⟩, rfl⟩))))
    subst he
    obtain ⟨_, _, _, hL⟩ := R2.2.2 rfl
    obtain ⟨po1, po2⟩ := plain_order p p.hist hL
    have hpl := n2.len
    have hos : os = iL (List.range cs.length) := by
      refine List.ext_getElem? fun i => ?_
      by_cases hi : i < cs.length
      · rw [po2 i (by omega), iL_range hi]
      · rw [List.getElem?_eq_none (by omega), List.getElem?_eq_none (by simp [iL]; omega)]
    refine ⟨fun q => absurd rfl (of_decide_eq_true q), fun _ => ⟨fun q => ?_, fun _ => ?_⟩⟩
    · have q : (pl.len : Int) ≠ (cl.len : Int) := of_decide_eq_true q
      omega
    refine Loop.up cs.length (fun s => s.1) (fun i s k => k = h2) rfl rfl ?_
    rintro i ⟨i', u⟩ k go hi hc rfl hgo
    dsimp only at hc; subst hc
    refine ⟨fun f => ?_, fun f => ?_⟩
    · have f : (i : Int) < (pl.len : Int) := of_decide_eq_true f
      have hlt : i < cs.length := by omega
      refine ⟨⟨by omega, f⟩, n2.arr.at (by omega) f rfl fun x hx => ?_⟩
      rw [Int.toNat_natCast, po2 i (by omega)] at hx
      cases hx
      refine ⟨fun q => absurd rfl (of_decide_eq_true q), fun _ => hgo hlt _ _ ?_ rfl⟩
      exact w64_up' (n := cs.length) hlt (by omega)
    · have l2 : le h0 k := (nu.le.trans n1.le).trans n2.le
      refine i4 (widened_spec (n1.arr.le n2.le) (hw.le l2) (by omega) p i1 fun wl h3 l n3 W => ?_)
      have hll : l.length = cs.length := W.len
      have hwl := n3.len
      have hH := W.hist p
      have hLl := W.legal p
      refine i3 n3.arr (by omega) fun r e os4 h4 R4 n4 => ?_
      have he : e = 0 := R4.1.one (.inr (.inr (.inr (.inr ⟨by omega, hmm, hH, ⟨_, hLl⟩, rfl⟩))))
      subst he
      obtain ⟨_, _, _, hL4⟩ := R4.2.2 rfl
      have hl4 := legal_len hH hL4 fun k' d hd => (W.sound p hd).choose_spec.2.2
      have h4l := n4.len
      have a4 := n3.arr.le n4.le
      refine ⟨fun q => absurd rfl (of_decide_eq_true q), fun _ => ⟨fun q => ?_, fun _ => ?_⟩⟩
      · have q : (r.len : Int) ≠ (wl.len : Int) := of_decide_eq_true q
        omega
      refine i5 a4 n4.arr (by omega) (show r.len ≤ 2097152 by omega) fun b h5 hb l5 => ?_
      have hb : b = true := hb.2 ⟨by omega, hmm, hH, hL4⟩
      subst hb
      refine ⟨fun q => (by cases q), fun _ => ?_⟩
      have l35 : le h3 h5 := n4.le.trans l5
      refine i5 (a4.le l5) (((n2.arr.le n3.le).le n4.le).le l5) (by omega) (show pl.len ≤ 2097152 by omega) fun b h6 hb l6 => ?_
      have hb : b = true := hb.2 ⟨by omega, hmm, hH, by rw [hos, ← hll]; exact hLl⟩
      subst hb
      refine ⟨fun q => (by cases q), fun _ => ?_⟩
      refine i6 ((a4.le l5).le l6) (by omega) fun pt h7 n7 => ?_
      have hcut := cutL_len pick l
      have hp7 := n7.len
      refine i3 n7.arr (by omega) fun sn e os8 h8 R8 n8 => ?_
      have he : e = 0 := R8.1.one (.inr (.inr (.inr (.inr ⟨by omega, hmm, cut_hist hH pick, cut_has p W pick, rfl⟩))))
      subst he
      obtain ⟨_, _, _, hL8⟩ := R8.2.2 rfl
      have hH8 := cut_hist hH pick
      have h8l := n8.len
      have hos8 : os8.length ≤ 40 := by
        obtain ⟨is, t, xs, e, hW, hD⟩ := legal_way hH8 hL8
        have h1 := hW.fits.sum
        have h2 := hW.fits.len
        have e2 : os8.length = is.length := by rw [← e]; simp [iL]
        omega
      refine ⟨fun _ => ?_, fun q => absurd rfl (of_decide_eq_false q)⟩
      refine i5 (n7.arr.le n8.le) n8.arr (by omega) (show sn.len ≤ 2097152 by omega) fun b h9 hb l9 => ?_
      have hb : b = true := hb.2 ⟨by omega, hmm, hH8, hL8⟩
      subst hb
      exact hQ h9 (((((((l2.trans n3.le).trans n4.le).trans l5).trans l6).trans n7.le).trans n8.le).trans l9)
  -- the todos
  refine Loop.up (min ts.length 40) (fun s => s.2.1) (fun i s k => ∃ us : List Td, New h0 k kapiTodo s.1 us ∧ us.length = i ∧ ∀ t ∈ us, t.1 = 0 ∨ t.1 = 1 ∨ t.1 = 2) rfl ⟨[], New.nil h0 _, rfl, fun t ht => (by cases ht)⟩ ?_
  rintro i ⟨acc, i', u⟩ k go hi hc ⟨us, nu, hul, hk⟩ hgo
  dsimp only at hc nu; subst hc
  have hal := nu.len
  have out : i = min ts.length 40 → law4_HistWitness.j10 c1 c2 c3 c4 c5 c6 todos wide pick Q r6 go (acc, ((i : Int), u)) (false, ()) k := fun e => ⟨fun q => (by cases q), fun _ => main acc k us nu (by omega) hk⟩
  refine ⟨fun f => ?_, fun f => ?_⟩
  · have f : (i : Int) < (todos.len : Int) := of_decide_eq_true f
    by_cases g : (i : Int) < 40
    · have hg : decide ((i : Int) < 40) = true := decide_eq_true g
      dsimp only
      rw [hg]
      refine ⟨fun _ => ?_, fun q => (by cases q)⟩
      have hlt : i < ts.length := by omega
      have hb : (0 : Int) ≤ (i : Int) := by omega
      have hak := ha.le nu.le
      obtain ⟨a, e1, e2, e3⟩ := td_cells hak hlt
      refine ⟨⟨hb, f⟩, ?_⟩
      show deref todos.a _
      rw [e1]
      refine ⟨⟨hb, f⟩, ?_⟩
      show ld _ _ _ _
      rw [Int.toNat_natCast]
      refine ⟨_, e2, ⟨_, e3, i1 (mod4_spec (by decide) (by decide) fun r z1 z2 => ⟨e3, nu.app rfl rfl (by omega) fun t2 k2 n2 => ?_⟩)⟩⟩
      refine hgo (by omega) _ _ (w64_up' (n := ts.length) hlt (by omega)) ⟨_, n2, by simp [hul], fun t ht => ?_⟩
      rcases List.mem_append.1 ht with ht | ht
      · exact hk t ht
      · obtain rfl : t = (r, (ts[i].2.1, ())) := by simpa using ht
        show r = 0 ∨ r = 1 ∨ r = 2
        omega
    · have hg : decide ((i : Int) < 40) = false := decide_eq_false g
      dsimp only
      rw [hg]
      exact out (by omega)
  · have f : ¬ (i : Int) < (todos.len : Int) := of_decide_eq_false f
    exact out (by omega)

end Go.Mx
