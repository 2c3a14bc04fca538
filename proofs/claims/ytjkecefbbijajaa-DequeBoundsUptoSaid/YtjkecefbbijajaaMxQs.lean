/-
  alive: the walk.
-/
import Derived.Test.YtjkecefbbijajaaMxQr
set_option linter.unusedVariables false
set_option linter.unusedSimpArgs false
set_option linter.unusedSectionVars false
namespace Go.Mx

theorem aget_seti {n : Nat} {a : Fin n → Int} {i j : Nat} {v : Int} (hj : j < n) : aget (n := n) (a := ki) (aset (n := n) (a := ki) a i v) j = if j = i then v else aget (n := n) (a := ki) a j := by
  unfold aget aset
  rw [dif_pos hj, dif_pos hj]
  try rfl
theorem w64_div {x a d : Int} (h0 : 0 ≤ x) (h1 : x ≤ 2000000) (a0 : 0 ≤ a) (a1 : a ≤ 100) (hd : 0 < d) : w64 (Int.tdiv (w64 (x - ((0 : Nat) : Int) + a)) d) = (x + a) / d := by
  have e1 : w64 (x - ((0 : Nat) : Int) + a) = x + a := by rw [w64_of] <;> omega
  have b0 : 0 ≤ (x + a) / d := Int.ediv_nonneg (by omega) (by omega)
  have b1 : (x + a) / d ≤ x + a := Int.ediv_le_self _ (by omega)
  rw [e1, Int.tdiv_eq_ediv_of_nonneg (by omega), w64_of] <;> omega
theorem lst_step {n : Int} {cs : List DCl} {i : Nat} {c : DCl} (hc : cs[i]? = some c) {w : Nat} (hw : dWho c = (w : Int)) {la : Fin 4 → Int} (h : ∀ v : Nat, v < 4 → aget (n := 4) (a := ki) la v = lst n v cs i) {la' : Fin 4 → Int} (h' : ∀ v : Nat, v < 4 → aget (n := 4) (a := ki) la' v = if v = w then (if dEnd c < 0 then n else dEnd c) else aget (n := 4) (a := ki) la v) : ∀ v : Nat, v < 4 → aget (n := 4) (a := ki) la' v = lst n v cs (i + 1) := fun v hv => by
  rw [h' v hv, lst_succ hc, hw]
  by_cases e : v = w
  · subst e; rw [if_pos rfl, if_pos rfl]
  · rw [if_neg e, if_neg (by omega)]; exact h v hv
theorem cnt_step {cs : List DCl} {i : Nat} {c : DCl} (hc : cs[i]? = some c) {w : Nat} (hw : dWho c = (w : Int)) {ct : Fin 4 → Int} (h : ∀ v : Nat, v < 4 → aget (n := 4) (a := ki) ct v = (nOf v (cs.take i) : Int)) (hn : cs.length ≤ 2000000000) : ∀ v : Nat, v < 4 → aget (n := 4) (a := ki) (aset (n := 4) (a := ki) ct w (w64 (aget (n := 4) (a := ki) ct w + 1))) v = (nOf v (cs.take (i + 1)) : Int) := fun v hv => by
  rw [aget_seti hv, nOf_succ hc, hw]
  have hb : nOf w (cs.take i) ≤ 2000000000 := by
    unfold nOf
    have := List.length_filter_le (fun c => decide (dWho c = (w : Int))) (cs.take i)
    have h2 := List.length_take_le i cs
    have h3 := List.length_take_le' i cs
    omega
  by_cases e : v = w
  · subst e
    rw [if_pos rfl, if_pos rfl, h v hv, w64_of (by omega) (by omega)]
    exact (Int.natCast_add _ 1).symm
  · rw [if_neg e, if_neg (by omega), Nat.add_zero]; exact h v hv
theorem HI.beg_ge {W : List Nat} {td0 : List DTd} {k : Nat} {p : PS} (h : HI W td0 k p) : ∀ (i : Nat) c, p.calls[i]? = some c → (i : Int) ≤ dBeg c
  | 0, c, hc => by obtain ⟨_, b, _, q, _⟩ := h.c1 0 c hc; omega
  | i + 1, c, hc => by
    have hi := (List.getElem?_eq_some_iff.1 hc).1
    have ha : p.calls[i]? = some (p.calls[i]'(by omega)) := by simp
    have := h.beg_ge i _ ha
    have := h.inc i (i + 1) _ _ (Nat.lt_succ_self i) ha hc
    omega
theorem HI.len_le {W : List Nat} {td0 : List DTd} {k : Nat} {p : PS} (h : HI W td0 k p) : p.calls.length ≤ k := by
  by_cases e : p.calls.length = 0
  · omega
  · have hc : p.calls[p.calls.length - 1]? = some (p.calls[p.calls.length - 1]'(by omega)) := by simp
    have := h.beg_ge _ _ hc
    obtain ⟨_, b, _, q, q2, _⟩ := h.c1 _ _ hc
    omega
theorem alive_spec {r1 : Den kapiDequeRun} {td pkS : Sl} {thieves most : Int} {h : Heap} {todos : List DTd} {picks : List Int} {p : PS} (hcs : Arr h KCl r1.1 p.calls) (ht : Arr h KTd td todos) (hp : Arr h ki pkS picks) (f : PF (whos thieves picks) todos thieves most picks.length p) (t0 : 0 ≤ thieves) (t3 : thieves ≤ 3) (hn : picks.length ≤ 1048576) (htl : todos.length ≤ 4096)
    {c1 : Int → Int → Heap → (Int → Heap → Prop) → Prop} {c2 : Sl → Int → Int → Int → Int → Heap → (Int → Heap → Prop) → Prop} (i1 : ∀ {x n h Q}, law3_mod.M x n h Q → c1 x n h Q)
    (i2 : ∀ {w l u : Nat} {lo hi : Int} {Q : Int → Heap → Prop}, (if lo < 0 then 0 else lo) = (l : Int) → l ≤ u → u ≤ picks.length → ((hi < 0 ∧ u = picks.length) ∨ (0 ≤ hi ∧ hi + 1 = (u : Int))) → Q ((pk (whos thieves picks) w u : Int) - (pk (whos thieves picks) w l : Int)) h → c2 pkS thieves (w : Int) lo hi h Q)
    {Q : Bool → Heap → Prop} (hQ : Q true h) : law3_alive.M c1 c2 r1 td thieves pkS h Q := by
  have hcl := hcs.1
  have htl' := ht.1
  have hpl := hp.1
  have hle := f.hi.len_le
  have wt : w64 (1 + thieves) = 1 + thieves := by rw [w64_of] <;> omega
  have hW : (whos thieves picks).length = picks.length := List.length_map ..
  -- the slots are set
  refine Loop.up 4 (fun s => s.1) (fun i s k => k = h ∧ ∀ v : Nat, v < i → aget (n := 4) (a := ki) s.2.1.1 v = -1) rfl ⟨rfl, fun v hv => absurd hv (Nat.not_lt_zero _)⟩ ?_
  rintro i ⟨i', ⟨la, u1⟩, u2⟩ k go hi hc ⟨rfl, hI⟩ hgo
  dsimp only at hc hI; subst hc
  refine dcase (fun g => ?_) (fun g => ?_)
  · have g : (i : Int) < 4 := g
    refine ⟨⟨Int.natCast_nonneg i, g⟩, hgo (by omega) _ _ (w64_nat (n := 4) (by omega) (by omega)) ⟨rfl, fun v hv => ?_⟩⟩
    show aget (n := 4) (a := ki) (aset (n := 4) (a := ki) la ((i : Int)).toNat (-1)) v = -1
    rw [Int.toNat_natCast, aget_seti (by omega)]
    by_cases e : v = i
    · rw [if_pos e]
    · rw [if_neg e]; exact hI v (by omega)
  have g : ¬ (i : Int) < 4 := g
  obtain rfl : i = 4 := by omega
  clear hgo g hi
  -- the calls
  refine Loop.up p.calls.length (fun s => s.1) (fun i s k' => k' = k ∧ (∀ v : Nat, v < 4 → aget (n := 4) (a := ki) s.2.1.1 v = (nOf v (p.calls.take i) : Int)) ∧ ∀ v : Nat, v < 4 → aget (n := 4) (a := ki) s.2.2.1.1 v = lst (picks.length : Int) v p.calls i) rfl ⟨rfl, fun v hv => by
    unfold aget; rw [dif_pos hv]; rfl, fun v hv => hI v hv⟩ ?_
  rintro i ⟨i', ⟨ct, u3⟩, ⟨lb, u4⟩, u5⟩ k' go2 hi hc ⟨rfl, hC, hL⟩ hgo
  dsimp only at hc hC hL; subst hc
  refine dcase (fun g => ?_) (fun g => ?_)
  · have g : (i : Int) < (r1.1.len : Int) := g
    have hil : i < p.calls.length := by omega
    have hx : p.calls[i]? = some p.calls[i] := by simp
    obtain ⟨ac, hac⟩ := hcs.addr (by omega)
    refine ⟨⟨Int.natCast_nonneg i, g⟩, ?_⟩
    rw [hac]
    simp only [deref]
    rw [Int.toNat_natCast]
    refine hcs.ldAt (k := KCl) hac hx rfl ?_
    obtain ⟨w, b, q1, q2, q3, q4, q5, q6⟩ := f.hi.c1 i _ hx
    have hw4 : w < 4 := by rw [f.al] at q5; omega
    have hwt : (w : Int) ≤ thieves := by rw [f.al] at q5; omega
    have hlst := f.lst_ok hx q1
    have c2' := f.hi.c2 i _ hx
    have hag : dWho p.calls[i] = 0 → ∃ t, todos[nOf 0 (p.calls.take i)]? = some t ∧ dKind p.calls[i] = t.1 ∧ (t.1 = 0 → dArg p.calls[i] = t.2.1) := fun e => f.own_ask hx e
    have hfi : dWho p.calls[i] = 0 → nOf 0 (p.calls.take i) = 0 → dKind p.calls[i] = 0 → 0 ≤ dEnd p.calls[i] → dCode p.calls[i] = 2 := fun e => f.first hx e
    have hinc : ∀ j : Nat, j < i → ∀ a, p.calls[j]? = some a → dBeg a < dBeg p.calls[i] := fun j hj a ha => f.hi.inc j i a _ hj ha hx
    have hls := fun la' h' => lst_step (n := (picks.length : Int)) hx q1 hL (la' := la') h'
    have hcs' := cnt_step hx q1 hC (by omega)
    generalize p.calls[i] = c at *
    obtain ⟨who, kind, arg, beg, en, code, val, u⟩ := c
    dsimp only [dWho, dKind, dArg, dBeg, dEnd, dCode, dVal] at *
    subst q1 q2
    have hen : en < (picks.length : Int) := by
      rcases c2' with ⟨z, _⟩ | ⟨e, y1, y2, y3, _⟩
      · rw [z]; exact Int.lt_of_lt_of_le (show (-1 : Int) < 0 by decide) (Int.natCast_nonneg _)
      · rw [y1]; exact Int.ofNat_lt.2 y3
    refine dcase (fun e => ?_) (fun _ => dcase (fun e => ?_) (fun _ => dcase (fun e => ?_) (fun _ => dcase (fun e => ?_) (fun _ => dcase (fun e => ?_) (fun _ => ?_)))))
    · exact absurd e (Int.not_lt.2 (Int.natCast_nonneg _))
    · exact absurd e (Int.not_lt.2 hwt)
    · exact absurd e (Int.not_lt.2 (Int.natCast_nonneg _))
    · exact absurd e (Int.not_le.2 (by rw [← hpl]; exact Int.ofNat_lt.2 (by omega)))
    · exact absurd e (Int.not_le.2 (by rw [← hpl]; exact hen))
    have hcode : (!(decide (en < 0) == decide (code = 0))) = false := by
      rcases c2' with ⟨z1, z2, _⟩ | ⟨e, y1, y2, y3, y4, y5, _⟩
      · rw [decide_eq_true (show en < 0 by rw [z1]; decide), decide_eq_true z2]; rfl
      · rw [decide_eq_false (show ¬ en < 0 by rw [y1]; exact Int.not_lt.2 (Int.natCast_nonneg _)), decide_eq_false y5]; rfl
    show law3_alive.j11 _ _ _ _ _ _ _ _ _ _ (!(decide (en < 0) == decide (code = 0)), ()) _
    rw [hcode]
    refine ⟨fun z => (by cases z), fun _ => ?_⟩
    -- the pick of its begin
    have hw0 : (0 : Int) ≤ (w : Int) ∧ (w : Int) < 4 := ⟨by omega, by omega⟩
    obtain ⟨xb, hxb, exb⟩ : ∃ x, picks[b]? = some x ∧ x % (1 + thieves) = (w : Int) := by
      unfold whos at q4
      rw [List.getElem?_map] at q4
      cases e : picks[b]? with
      | none => rw [e] at q4; cases q4
      | some x =>
        rw [e] at q4
        have q7 : (x % (1 + thieves)).toNat = w := Option.some.inj q4
        have hr := mod_range (x := x) (n := 1 + thieves) (by omega)
        exact ⟨x, rfl, by rw [← q7, Int.toNat_of_nonneg hr.1]⟩
    have main : law3_alive.j8 c1 c2 td thieves pkS Q go2 ((i : Int), (ct, u3), (lb, u4), u5) ((w : Int), (kind, (arg, ((b : Int), (en, (code, (val, u))))))) () k' := by
      have ea : aget (n := 4) (a := ki) lb ((w : Int)).toNat = lst (picks.length : Int) w p.calls i := by rw [Int.toNat_natCast]; exact hL w hw4
      obtain ⟨l1, l2, l3⟩ := hlst
      have l1 : lst (picks.length : Int) w p.calls i < (b : Int) := l1
      refine ⟨hw0, ?_⟩
      show c2 pkS thieves (w : Int) (w64 (aget (n := 4) (a := ki) lb ((w : Int)).toNat + 1)) (b : Int) k' _
      rw [ea, w64_of (by omega) (by omega)]
      have lge : ¬ lst (picks.length : Int) w p.calls i + 1 < 0 := by omega
      refine i2 (l := (lst (picks.length : Int) w p.calls i + 1).toNat) (u := b + 1) (by rw [if_neg lge, Int.toNat_of_nonneg (by omega)]) (by omega) (by omega) (.inr ⟨Int.natCast_nonneg _, rfl⟩) ?_
      have one : ((pk (whos thieves picks) w (b + 1) : Int) - (pk (whos thieves picks) w (lst (picks.length : Int) w p.calls i + 1).toNat : Int)) = 1 := by
        have e1 := pk_succ (w := w) q4
        rw [if_pos rfl] at e1
        rw [Int.toNat_natCast] at l3
        omega
      rw [one]
      refine ⟨fun z => absurd rfl (of_decide_eq_true z), fun _ => ⟨hw0, ?_⟩⟩
      -- behind the ends
      have j7 : ∀ la' : Fin 4 → Int, (∀ v : Nat, v < 4 → aget (n := 4) (a := ki) la' v = if v = w then (if en < 0 then (picks.length : Int) else en) else aget (n := 4) (a := ki) lb v) → law3_alive.j7 td Q go2 ((i : Int), (ct, u3), (lb, u4), u5) ((w : Int), (kind, (arg, ((b : Int), (en, (code, (val, u))))))) ((la', ()), ()) k' := fun la' hla => by
        have fin : law3_alive.j2 Q go2 ((i : Int), (ct, u3), (lb, u4), u5) ((w : Int), (kind, (arg, ((b : Int), (en, (code, (val, u))))))) ((la', ()), ()) (false, ()) k' := by
          refine ⟨fun z => (by cases z), fun _ => ?_⟩
          refine hgo hil _ _ (w64_nat (n := p.calls.length) hil (by omega)) ⟨rfl, fun v hv => ?_, fun v hv => hls la' hla v hv⟩
          show aget (n := 4) (a := ki) (aset (n := 4) (a := ki) ct ((w : Int)).toNat (w64 (aget (n := 4) (a := ki) ct ((w : Int)).toNat + 1))) v = _
          rw [Int.toNat_natCast]
          exact hcs' v hv
        have ec : aget (n := 4) (a := ki) ct ((w : Int)).toNat = (nOf w (p.calls.take i) : Int) := by rw [Int.toNat_natCast]; exact hC w hw4
        have j3 : law3_alive.j3 Q go2 ((i : Int), (ct, u3), (lb, u4), u5) ((w : Int), (kind, (arg, ((b : Int), (en, (code, (val, u))))))) ((la', ()), ()) () k' := by
          refine dcase (fun e1 => ?_) (fun _ => fin)
          refine dcase (fun e2 => ?_) (fun _ => fin)
          refine dcase (fun e3 => ?_) (fun _ => fin)
          refine dcase (fun e4 => ?_) (fun _ => fin)
          have e1 : (w : Int) = 0 := e1
          have w0 : w = 0 := by omega
          subst w0
          have e2 : aget (n := 4) (a := ki) ct (((0 : Nat) : Int)).toNat = 0 := e2
          rw [ec] at e2
          have e2 : ((nOf 0 (p.calls.take i) : Nat) : Int) = 0 := e2
          have hz := hfi rfl (by omega) e3 e4
          show law3_alive.j2 _ _ _ _ _ (decide (code ≠ 2), ()) _
          rw [hz]
          exact fin
        have j4 : law3_alive.j4 Q go2 ((i : Int), (ct, u3), (lb, u4), u5) ((w : Int), (kind, (arg, ((b : Int), (en, (code, (val, u))))))) ((la', ()), ()) (false, ()) k' := ⟨fun z => (by cases z), fun _ => j3⟩
        have j5 : law3_alive.j5 td Q go2 ((i : Int), (ct, u3), (lb, u4), u5) ((w : Int), (kind, (arg, ((b : Int), (en, (code, (val, u))))))) ((la', ()), ()) () k' := by
          refine dcase (fun e1 => ?_) (fun _ => j4)
          have e1 : (w : Int) = 0 := e1
          have w0 : w = 0 := by omega
          subst w0
          obtain ⟨t, t1, t2, t3'⟩ := hag rfl
          have tl := (List.getElem?_eq_some_iff.1 t1).1
          obtain ⟨at', hat⟩ := ht.addr (by omega)
          refine dcase (fun e2 => ?_) (fun _ => ?_)
          · have e2 : (td.len : Int) ≤ aget (n := 4) (a := ki) ct (((0 : Nat) : Int)).toNat := e2
            rw [ec] at e2
            have e2 : (td.len : Int) ≤ ((nOf 0 (p.calls.take i) : Nat) : Int) := e2
            omega
          · refine ⟨⟨?_, ?_⟩, ?_⟩
            · show (0 : Int) ≤ aget (n := 4) (a := ki) ct (((0 : Nat) : Int)).toNat
              rw [ec]; exact Int.natCast_nonneg _
            · show aget (n := 4) (a := ki) ct (((0 : Nat) : Int)).toNat < (td.len : Int)
              rw [ec]; exact (show ((nOf 0 (p.calls.take i) : Nat) : Int) < (td.len : Int) by omega)
            · rw [hat]
              show ld ki k' ((at'.add ((aget (n := 4) (a := ki) ct (((0 : Nat) : Int)).toNat).toNat * 2)).add 0) _
              rw [ec, Int.toNat_natCast]
              refine ht.ldPart (kp := ki) (y := t.1) hat t1 (PartAt.zero (post := Kd.cells (.pair ki .nil) t.2) rfl) rfl ?_
              refine dcase (fun e3 => absurd t2 e3) (fun _ => ?_)
              refine dcase (fun e3 => ?_) (fun _ => j4)
              refine ⟨⟨?_, ?_⟩, ?_⟩
              · exact Int.natCast_nonneg _
              · exact (show ((nOf 0 (p.calls.take i) : Nat) : Int) < (td.len : Int) by omega)
              · show ld ki k' ((at'.add (nOf 0 (p.calls.take i) * 2)).add 1) _
                refine ht.ldPart (kp := ki) (y := t.2.1) hat t1 ⟨Kd.cells ki t.1, [], rfl, rfl⟩ rfl ?_
                have e3 : kind = 0 := e3
                have t2 : kind = t.1 := t2
                have t3' : arg = t.2.1 := t3' (by rw [← t2]; exact e3)
                show law3_alive.j4 _ _ _ _ _ (decide (arg ≠ t.2.1), ()) _
                rw [decide_eq_false (show ¬ arg ≠ t.2.1 from fun q => q t3')]
                exact j4
        have j6 : law3_alive.j6 td Q go2 ((i : Int), (ct, u3), (lb, u4), u5) ((w : Int), (kind, (arg, ((b : Int), (en, (code, (val, u))))))) ((la', ()), ()) (false, ()) k' := ⟨fun z => (by cases z), fun _ => j5⟩
        refine ⟨hw0, hw0, hw0, dcase (fun e1 => ?_) (fun _ => j6)⟩
        have e1 : (0 : Int) < (w : Int) := e1
        have kd : kind = 2 := q6 (by omega)
        show law3_alive.j6 _ _ _ _ _ _ (decide (kind ≠ 2), ()) _
        rw [decide_eq_false (show ¬ kind ≠ 2 from fun q => q kd)]
        exact j6
      refine dcase (fun e1 => ⟨hw0, ?_⟩) (fun e1 => ?_)
      · have e1 : en < 0 := e1
        refine j7 _ fun v hv => ?_
        rw [Int.toNat_natCast, aget_seti hv]
        by_cases e : v = w
        · rw [if_pos e, if_pos e, if_pos e1, hpl]
        · rw [if_neg e, if_neg e, aget_seti hv, if_neg e]
      · have e1 : ¬ en < 0 := e1
        have e2 : ∃ x, picks[en.toNat]? = some x ∧ x % (1 + thieves) = (w : Int) := by
          rcases c2' with ⟨z, _⟩ | ⟨e, y1, y2, y3, y4, _⟩
          · exact absurd (show en < 0 by rw [z]; decide) e1
          · rw [y1, Int.toNat_natCast]
            unfold whos at y4
            rw [List.getElem?_map] at y4
            cases z : picks[e]? with
            | none => rw [z] at y4; cases y4
            | some x =>
              rw [z] at y4
              have q7 : (x % (1 + thieves)).toNat = ((w : Int)).toNat := Option.some.inj y4
              have hr := mod_range (x := x) (n := 1 + thieves) (by omega)
              exact ⟨x, rfl, by rw [Int.toNat_natCast] at q7; rw [← q7, Int.toNat_of_nonneg hr.1]⟩
        obtain ⟨xe, z1, z2⟩ := e2
        refine ⟨⟨Int.not_lt.1 e1, by rw [← hpl]; exact hen⟩, hp.at (i := en) (Int.not_lt.1 e1) (by rw [← hpl]; exact hen) rfl fun x hx' => ?_⟩
        rw [z1] at hx'; cases hx'
        rw [wt]
        refine i1 (lmod_spec (by omega) (by omega) ?_)
        refine dcase (fun e3 => absurd z2 e3) (fun _ => ?_)
        refine j7 _ fun v hv => ?_
        show aget (n := 4) (a := ki) (aset (n := 4) (a := ki) lb ((w : Int)).toNat en) v = _
        rw [Int.toNat_natCast, aget_seti hv]
        by_cases e : v = w
        · rw [if_pos e, if_pos e, if_neg e1]
        · rw [if_neg e, if_neg e]
    have j9 : law3_alive.j9 c1 c2 td thieves pkS Q go2 ((i : Int), (ct, u3), (lb, u4), u5) ((w : Int), (kind, (arg, ((b : Int), (en, (code, (val, u))))))) (false, ()) k' := ⟨fun z => (by cases z), fun _ => main⟩
    have tail : ¬ (b : Int) ≤ aget (n := 4) (a := ki) lb w ∧ (∀ K : Int → Prop, K xb → (deref pkS.a fun a => ld ki k' (a.add (((b : Nat) : Int).toNat * 1)) K)) := ⟨by rw [hL w hw4]; omega, fun K hK => hp.at (i := ((b : Nat) : Int)) (by omega) (by omega) rfl fun x hx' => by rw [Int.toNat_natCast, hxb] at hx'; cases hx'; exact hK⟩
    have own : ¬ (b : Int) ≤ aget (n := 4) (a := ki) lb ((w : Int)).toNat := by rw [Int.toNat_natCast]; exact tail.1
    have md : c1 xb (1 + thieves) k' (fun r h => law3_alive.j9 c1 c2 td thieves pkS Q go2 ((i : Int), (ct, u3), (lb, u4), u5) ((w : Int), (kind, (arg, ((b : Int), (en, (code, (val, u))))))) (decide (r ≠ (w : Int)), ()) h) := i1 (lmod_spec (by omega) (by omega) (by
      rw [decide_eq_false (show ¬ xb % (1 + thieves) ≠ (w : Int) from fun q => q exb)]
      exact j9))
    have bb : (0 : Int) ≤ (b : Int) ∧ (b : Int) < (pkS.len : Int) := ⟨Int.natCast_nonneg _, by rw [← hpl]; exact Int.ofNat_lt.2 (by omega)⟩
    refine dcase (fun e => ?_) (fun _ => ?_)
    · have e : (0 : Int) < (i : Int) := e
      have ei : w64 ((i : Int) - 1) = ((i - 1 : Nat) : Int) := by rw [w64_of] <;> omega
      have hxp : p.calls[i - 1]? = some (p.calls[i - 1]'(by omega)) := by simp
      have hlt := hinc (i - 1) (by omega) _ hxp
      show (0 ≤ w64 ((i : Int) - 1) ∧ w64 ((i : Int) - 1) < (r1.1.len : Int)) ∧ _
      rw [ei]
      refine ⟨⟨Int.natCast_nonneg _, by omega⟩, ?_⟩
      rw [hac]
      show ld ki k' ((ac.add ((((i - 1 : Nat) : Int)).toNat * 7)).add 3) _
      rw [Int.toNat_natCast]
      generalize p.calls[i - 1]'(by omega) = c' at *
      refine hcs.ldPart (kp := ki) (y := dBeg c') (off := 3) hac hxp ⟨Kd.cells ki c'.1 ++ Kd.cells ki c'.2.1 ++ Kd.cells ki c'.2.2.1, Kd.cells (.pair ki (.pair ki (.pair ki .nil))) c'.2.2.2.2, rfl, rfl⟩ rfl ?_
      refine dcase (fun e => ?_) (fun _ => ⟨hw0, dcase (fun e => absurd e own) (fun _ => ⟨bb, ?_⟩)⟩)
      · have e : (b : Int) ≤ dBeg c' := e
        have hlt : dBeg c' < (b : Int) := hlt
        omega
      · rw [wt]; exact tail.2 _ md
    · refine ⟨hw0, dcase (fun e => absurd e own) (fun _ => ⟨bb, ?_⟩)⟩
      rw [wt]; exact tail.2 _ md
  have g : ¬ (i : Int) < (r1.1.len : Int) := g
  obtain rfl : i = p.calls.length := by omega
  rw [List.take_length] at hC
  have hm : ∀ w : Nat, pk (whos thieves picks) w picks.length ≤ 1048576 := fun w => by
    have := List.length_filter_le (fun x => decide (x = w)) ((whos thieves picks).take picks.length)
    have h2 := List.length_take_le' picks.length (whos thieves picks)
    unfold pk
    omega
  refine ⟨⟨by decide, by decide⟩, i2 (w := 0) (l := 0) (u := picks.length) rfl (Nat.zero_le _) (Nat.le_refl _) (.inl ⟨by decide, rfl⟩) ⟨by decide, ?_⟩⟩
  rw [pk_zero]
  have h0 := hm 0
  have td15 : w64 (Int.tdiv (w64 ((pk (whos thieves picks) 0 picks.length : Int) - ((0 : Nat) : Int) + 14)) 15) = ((pk (whos thieves picks) 0 picks.length : Int) + 14) / 15 := by
    exact w64_div (by omega) (by omega) (by decide) (by decide) (by decide)
  have oc := f.own_cnt
  refine dcase (fun e => ?_) (fun _ => ?_)
  · have e : aget (n := 4) (a := ki) ct ((0 : Int)).toNat < (if w64 (Int.tdiv (w64 ((pk (whos thieves picks) 0 picks.length : Int) - ((0 : Nat) : Int) + 14)) 15) < (td.len : Int) then w64 (Int.tdiv (w64 ((pk (whos thieves picks) 0 picks.length : Int) - ((0 : Nat) : Int) + 14)) 15) else (td.len : Int)) := e
    rw [td15, show ((0 : Int)).toNat = 0 from rfl, hC 0 (by omega)] at e
    exfalso
    have e : ((nOf 0 p.calls : Nat) : Int) < (if ((pk (whos thieves picks) 0 picks.length : Int) + 14) / 15 < (td.len : Int) then ((pk (whos thieves picks) 0 picks.length : Int) + 14) / 15 else (td.len : Int)) := e
    split at e <;> omega
  -- the thieves
  refine Loop.up thieves.toNat (fun s => s.1 - 1) (fun i s k => k = k') rfl rfl ?_
  rintro i ⟨j, u6⟩ k'' go3 hi2 hc rfl hgo3
  have hc : j - 1 = (i : Int) := hc
  obtain rfl : j = ((i + 1 : Nat) : Int) := (Int.sub_eq_iff_eq_add.1 hc).trans (Int.natCast_add i 1).symm
  refine dcase (fun e => ?_) (fun _ => hQ)
  have e : ((i + 1 : Nat) : Int) ≤ thieves := e
  refine ⟨⟨Int.natCast_nonneg _, show ((i + 1 : Nat) : Int) < 4 by omega⟩, i2 (w := i + 1) (l := 0) (u := picks.length) rfl (Nat.zero_le _) (Nat.le_refl _) (.inl ⟨by decide, rfl⟩) ⟨by decide, ?_⟩⟩
  rw [pk_zero]
  have h1 := hm (i + 1)
  have td6 : w64 (Int.tdiv (w64 ((pk (whos thieves picks) (i + 1) picks.length : Int) - ((0 : Nat) : Int) + 5)) 6) = ((pk (whos thieves picks) (i + 1) picks.length : Int) + 5) / 6 := by
    exact w64_div (by omega) (by omega) (by decide) (by decide) (by decide)
  have tc := f.th_cnt (w := i + 1) (by omega) (by rw [f.al]; omega)
  refine dcase (fun z => ?_) (fun _ => ?_)
  · have z : aget (n := 4) (a := ki) ct (((i + 1 : Nat) : Int)).toNat < w64 (Int.tdiv (w64 ((pk (whos thieves picks) (i + 1) picks.length : Int) - ((0 : Nat) : Int) + 5)) 6) := z
    rw [td6, Int.toNat_natCast, hC (i + 1) (by omega)] at z
    exfalso
    have z : ((nOf (i + 1) p.calls : Nat) : Int) < ((pk (whos thieves picks) (i + 1) picks.length : Int) + 5) / 6 := z
    omega
  · refine hgo3 (by omega) _ _ ?_ rfl
    show w64 (((i + 1 : Nat) : Int) + 1) - 1 = _
    rw [w64_of] <;> omega

end Go.Mx
