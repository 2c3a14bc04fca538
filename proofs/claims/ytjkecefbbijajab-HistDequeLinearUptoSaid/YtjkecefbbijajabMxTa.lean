/-
  A steal is lost only to another call that takes: the plain part of HistDequeLost.
-/
import Derived.Test.YtjkecefbbijajabMxSa
import Derived.Test.YtjkecefbbijajabMxSb
set_option linter.unusedVariables false
set_option linter.unusedSimpArgs false
set_option linter.unusedSectionVars false
namespace Go.Mx

def wonP (o : DOp) : Prop := o.kind = 2 ∧ o.pc = 11 ∧ o.i = 1 ∧ o.won = true
/-- Another call than i takes, or has taken, at b or later. -/
def Tk (p : PS) (b : Int) (i : Nat) : Prop := ∃ (j : Nat) (c : DCl), p.calls[j]? = some c ∧ j ≠ i ∧ dKind c ≠ 0 ∧ ((dCode c = 4 ∧ b ≤ dEnd c) ∨ (dEnd c = -1 ∧ (p.act 0).2 = (j : Int) ∧ wonP (p.act 0).1))
structure LO (p : PS) : Prop where
  hs : ∀ w, w ≠ 0 → w < p.acts.length → hasT (p.act w).1 → (p.act w).1.t < gt p.m.cs 0 → ∀ c0, p.calls[(p.act w).2.toNat]? = some c0 → Tk p (dBeg c0) (p.act w).2.toNat
  lo : ∀ (i : Nat) c, p.calls[i]? = some c → dCode c = 6 → ∃ (j : Nat) (c' : DCl), p.calls[j]? = some c' ∧ j ≠ i ∧ dKind c' ≠ 0 ∧ dBeg c' ≤ dEnd c ∧ ((dCode c' = 4 ∧ dBeg c ≤ dEnd c') ∨ (dEnd c' = -1 ∧ (p.act 0).2 = (j : Int) ∧ wonP (p.act 0).1))

theorem hasT_pc {o : DOp} (h : hasT o) : o.pc ≠ 0 := fun e => by unfold hasT at h; omega
theorem LO.snoc {most : Int} {p q : PS} {N : Int} (pi : PI most p N) (h : LO p) {y : DCl} (ec : q.calls = p.calls ++ [y]) (y0 : dCode y = 0) (em : q.m = p.m) (el : q.acts.length = p.acts.length) (eo : wonP (p.act 0).1 → q.act 0 = p.act 0) (ea : ∀ w, w ≠ 0 → hasT (q.act w).1 → q.act w = p.act w) : LO q := by
  have keep : ∀ {i : Nat} {c : DCl}, p.calls[i]? = some c → q.calls[i]? = some c := fun {i c} hc => by
    rw [ec, List.getElem?_append_left (List.getElem?_eq_some_iff.1 hc).1]; exact hc
  refine ⟨fun w w0 hw ht hlt c0 h0 => ?_, fun i c hi h6 => ?_⟩
  · have e := ea w w0 ht
    rw [e] at ht hlt h0 ⊢
    rw [em] at hlt
    rw [el] at hw
    have hr : 0 ≤ (p.act w).2 := by
      rcases Int.lt_or_le (p.act w).2 0 with z | z
      · exact absurd ((pi.run w hw).1 z) (hasT_pc ht)
      · exact z
    rw [ec, List.getElem?_append_left (by have := pi.call w hw; omega)] at h0
    obtain ⟨j, c, z1, z2, z3, z4⟩ := h.hs w w0 hw ht hlt c0 h0
    exact ⟨j, c, keep z1, z2, z3, z4.imp id fun ⟨y1, y2, y3⟩ => by rw [eo y3]; exact ⟨y1, y2, y3⟩⟩
  · rw [ec] at hi
    rcases getElem?_snoc hi with ⟨_, hi⟩ | ⟨_, rfl⟩
    · obtain ⟨j, c', z1, z2, z3, z4, z5⟩ := h.lo i c hi h6
      exact ⟨j, c', keep z1, z2, z3, z4, z5.imp id fun ⟨y1, y2, y3⟩ => by rw [eo y3]; exact ⟨y1, y2, y3⟩⟩
    · omega
theorem LO.pre {most : Int} {p : PS} (h : LO p) {k : Nat} {w : Nat} (hw : w < p.acts.length) {N : Int} (pi : PI most p N) {q : PS} (e : p.pre most (k : Int) w = some q) : LO q := by
  have m1 : 1 ≤ most := by have := pi.dg.c1; have := pi.dg.cm; omega
  have m2 := pi.dg.mx
  have h0 := pi.pos
  have own : ∀ (x : DOp) (y : DCl) (ts : List DTd), (p.act 0).2 < 0 → dCode y = 0 → LO { p with todos := ts, acts := p.acts.set 0 (x, (p.calls.length : Int)), calls := p.calls ++ [y] } := fun x y ts e0 hy => by
    have pc0 := (pi.run 0 h0).1 e0
    have ea : ∀ j, ({ p with todos := ts, acts := p.acts.set 0 (x, (p.calls.length : Int)), calls := p.calls ++ [y] } : PS).act j = if j = 0 then (x, (p.calls.length : Int)) else p.act j := fun j => act_set (p := p) h0
    exact h.snoc pi rfl hy rfl List.length_set (fun z => by have := z.2.1; omega) (fun v hv _ => by rw [ea, if_neg hv])
  cases pre_cases e with
  | on _ eq => subst eq; exact h
  | push w0 h1 t ts et k1 eq => subst eq; exact own _ _ ts h1 rfl
  | pop w0 h1 t ts et k1 eq => subst eq; exact own _ _ ts h1 rfl
  | steal w0 h1 eq =>
    subst eq
    have ea : ∀ j, ({ p with acts := p.acts.set w (DOp.steal 0 most, (p.calls.length : Int)), calls := p.calls ++ [newCall (w : Int) 2 0 (k : Int)] } : PS).act j = if j = w then (DOp.steal 0 most, (p.calls.length : Int)) else p.act j := fun j => act_set (p := p) hw
    refine h.snoc pi rfl rfl rfl List.length_set (fun _ => by rw [ea, if_neg (fun z => w0 z.symm)]) (fun v hv hv2 => ?_)
    rw [ea] at hv2 ⊢
    by_cases z : v = w
    · rw [if_pos z] at hv2
      have : (DOp.steal 0 most).pc = 2 := by unfold DOp.steal; rw [begin_eq m1 m2]
      have hv2 : hasT (DOp.steal 0 most) := hv2
      unfold hasT at hv2
      have k3 : (DOp.steal 0 most).kind = 3 := by unfold DOp.steal; rw [begin_eq m1 m2]
      omega
    · rw [if_neg z]

theorem LO.go {W : List Nat} {td : List DTd} {most : Int} {k : Nat} {q : PS} (h : LO q) (ai : AI W most k q) (hi : HI W td (k + 1) q) {w : Nat} (hw : w < q.acts.length) (hr : 0 ≤ (q.act w).2) {N : Int} (pi : PI most q N) (nn : N ≤ 900000000) {v : Int} {m' : AS} {x : DOp} (r : GoR most q (k : Int) w v m' x N) : LO (q.go (k : Int) w) := by
  obtain ⟨e1, e2⟩ := r.act hw
  have pc : (q.act w).1.pc ≠ 0 := fun z => by have := (pi.run w hw).2 z; omega
  have base := (pi.mach w hw pc).1
  obtain ⟨c0, r1, r2, r3, r4, r5⟩ := ai.s0 w hw hr
  have bk : ∀ (i : Nat) c, q.calls[i]? = some c → dBeg c ≤ (k : Int) := fun i c hc => by
    obtain ⟨w', b, _, q2, q3, _⟩ := hi.c1 i c hc; omega
  have c00 : dCode c0 = 0 := by
    rcases hi.c2 _ c0 r1 with ⟨_, z, _⟩ | ⟨e, z, _⟩
    · exact z
    · omega
  have hxe := r.ex
  have kx : x.kind = (q.act w).1.kind := by rw [hxe]; exact ((q.act w).1.after_same v).1
  -- the calls and the actors behind
  have act2 : ∀ j, ((q.go (k : Int) w).act j).2 = if j = w then (if x.pc = 0 then -1 else (q.act w).2) else (q.act j).2 := fun j => by
    by_cases xp : x.pc = 0
    · rw [r.off xp, if_pos xp]
      have := act_set (p := { q with m := m', calls := endAt q.calls (q.act w).2.toNat (k : Int) x.code x.value }) (x := (x, -1)) (j := j) hw
      have h2 : ({ q with m := m', acts := q.acts.set w (x, -1), calls := endAt q.calls (q.act w).2.toNat (k : Int) x.code x.value } : PS).act j = if j = w then (x, -1) else q.act j := this
      rw [h2]; split <;> rfl
    · rw [r.on xp, if_neg xp]
      have := act_set (p := { q with m := m' }) (x := (x, (q.act w).2)) (j := j) hw
      have h2 : ({ q with m := m', acts := q.acts.set w (x, (q.act w).2) } : PS).act j = if j = w then (x, (q.act w).2) else q.act j := this
      rw [h2]; split <;> rfl
  have calls : ∀ (i : Nat) c, (q.go (k : Int) w).calls[i]? = some c ↔ (x.pc = 0 ∧ i = (q.act w).2.toNat ∧ c = endCall c0 (k : Int) x.code x.value) ∨ ((x.pc ≠ 0 ∨ i ≠ (q.act w).2.toNat) ∧ q.calls[i]? = some c) := fun i c => by
    by_cases xp : x.pc = 0
    · rw [show (q.go (k : Int) w).calls = endAt q.calls (q.act w).2.toNat (k : Int) x.code x.value by rw [r.off xp], endAt_get r1]
      constructor
      · rintro (⟨a, b⟩ | ⟨a, b⟩)
        · exact .inl ⟨xp, a, b⟩
        · exact .inr ⟨.inr a, b⟩
      · rintro (⟨_, a, b⟩ | ⟨a, b⟩)
        · exact .inl ⟨a, b⟩
        · exact .inr ⟨a.resolve_left (fun z => z xp), b⟩
    · rw [show (q.go (k : Int) w).calls = q.calls by rw [r.on xp]]
      constructor
      · exact fun a => .inr ⟨.inl xp, a⟩
      · rintro (⟨a, _⟩ | ⟨_, b⟩)
        · exact absurd a xp
        · exact b
  have e3 : (q.go (k : Int) w).acts.length = q.acts.length := by
    by_cases xp : x.pc = 0
    · rw [r.off xp]; exact List.length_set
    · rw [r.on xp]; exact List.length_set
  have idx : ∀ j, j < q.acts.length → 0 ≤ (q.act j).2 → j ≠ w → (q.act j).2.toNat ≠ (q.act w).2.toNat := fun j hj hrj hjw z => by
    obtain ⟨c', s1, s2, _⟩ := ai.s0 j hj hrj
    rw [z, r1] at s1
    cases s1
    omega
  -- a taker stays one
  have keepT : ∀ (j : Nat) (c : DCl) (b : Int), q.calls[j]? = some c → dKind c ≠ 0 → b ≤ (k : Int) → ((dCode c = 4 ∧ b ≤ dEnd c) ∨ (dEnd c = -1 ∧ (q.act 0).2 = (j : Int) ∧ wonP (q.act 0).1)) → ∃ c', (q.go (k : Int) w).calls[j]? = some c' ∧ dKind c' ≠ 0 ∧ dBeg c' = dBeg c ∧ ((dCode c' = 4 ∧ b ≤ dEnd c') ∨ (dEnd c' = -1 ∧ ((q.go (k : Int) w).act 0).2 = (j : Int) ∧ wonP ((q.go (k : Int) w).act 0).1)) := fun j c b hc hk hb ht => by
    rcases ht with ⟨t1, t2⟩ | ⟨t1, t2, t3⟩
    · refine ⟨c, (calls j c).2 (.inr ⟨.inr (fun z => ?_), hc⟩), hk, rfl, .inl ⟨t1, t2⟩⟩
      subst z; rw [r1] at hc; cases hc; omega
    · by_cases w0 : w = 0
      · subst w0
        have jj : j = (q.act 0).2.toNat := by omega
        subst jj
        rw [r1] at hc; cases hc
        obtain ⟨z1, z2, z3, z4⟩ := t3
        have hx : x = (q.act 0).1.over 4 (q.act 0).1.x := by
          rw [hxe]
          unfold DOp.after DOp.popped
          rw [if_neg (by omega), if_pos z1, if_neg (by omega), if_neg (by omega), if_pos z2, if_neg (by omega), if_pos z4]
        have xp : x.pc = 0 := by rw [hx]; rfl
        refine ⟨endCall c0 (k : Int) x.code x.value, (calls _ _).2 (.inl ⟨xp, rfl, rfl⟩), hk, rfl, .inl ⟨?_, hb⟩⟩
        show x.code = 4
        rw [hx]; rfl
      · have hj0 : j = (q.act 0).2.toNat := by omega
        refine ⟨c, (calls j c).2 (.inr ⟨.inr (fun z => ?_), hc⟩), hk, rfl, .inr ⟨t1, ?_, ?_⟩⟩
        · exact idx 0 pi.pos (by omega) (fun z => w0 z.symm) (by rw [← hj0]; exact z)
        · rw [act2, if_neg (fun z => w0 z.symm)]; exact t2
        · rw [e2, if_neg (fun z => w0 z.symm)]; exact t3
  have keepTk : ∀ (b : Int) (i : Nat), b ≤ (k : Int) → Tk q b i → Tk (q.go (k : Int) w) b i := fun b i hb ⟨j, c, t1, t2, t3, t4⟩ => by
    obtain ⟨c', y1, y2, _, y3⟩ := keepT j c b t1 t3 hb t4
    exact ⟨j, c', y1, t2, y2, y3⟩
  -- who has moved TOP takes
  have moved : gt m'.cs 0 ≠ gt q.m.cs 0 → ∃ c', (q.go (k : Int) w).calls[(q.act w).2.toNat]? = some c' ∧ dKind c' ≠ 0 ∧ ((dCode c' = 4 ∧ dEnd c' = (k : Int)) ∨ (dEnd c' = -1 ∧ ((q.go (k : Int) w).act 0).2 = ((q.act w).2.toNat : Int) ∧ wonP ((q.go (k : Int) w).act 0).1)) := fun hne => by
    by_cases w0 : w = 0
    · subst w0
      obtain ⟨e, l1, l2, l3⟩ := r.log pi.wt
      have p2 : (q.act 0).1.pc ≠ 2 := fun p2 => by
        rw [req2 base p2] at l3
        exact hne (by rw [l3.2.2])
      have p13 : (q.act 0).1.pc = 13 := by
        by_cases p13 : (q.act 0).1.pc = 13
        · exact p13
        · exact absurd ((pi.os.farR pi.dg base pc p2 p13).acc l3 (by have := pi.dg.len; have := pi.dg.a3; have := pi.dg.c1; have := newer_nn pi.os pi.dg.c1 pi.dg.cm; show 3 ≤ q.m.cs.length; omega)).2 hne
      cases pi.os with
      | idle p => omega
      | pu1 k' p | pu2 k' p | pu3 k' p | pu4 k' p | pu5 k' p | pu6 k' p | pu7 k' p | pu8 k' p | pu9 k' p | pu10 k' p | pu11 k' p => omega
      | po1 k' p | po3 k' p | po11 k' p | po2 k' p | po4 k' p | po12 k' p | pe k' p | pf k' p => omega
      | po13 k' p i =>
        rw [req13 base p13] at l3
        obtain ⟨_, hv, hcs⟩ := l3
        have hv : v = if gt q.m.cs 0 = (q.act 0).1.t then 1 else 0 := hv
        have hcs : m'.cs = if gt q.m.cs 0 = (q.act 0).1.t then _ else q.m.cs := hcs
        have z : gt q.m.cs 0 = (q.act 0).1.t := by
          by_cases z : gt q.m.cs 0 = (q.act 0).1.t
          · exact z
          · rw [if_neg z] at hcs; exact absurd (by rw [hcs]) hne
        rw [if_pos z] at hv
        have hx : x = { (q.act 0).1 with won := true, pc := 11 } := by
          rw [hxe, hv]
          unfold DOp.after DOp.popped
          rw [if_neg (by omega), if_pos k', if_neg (by omega), if_neg (by omega), if_neg (by omega), if_neg (by omega), if_neg (by omega), if_neg (by omega), if_pos p]
          rfl
        have xp : x.pc ≠ 0 := by rw [hx]; show (11 : Int) ≠ 0; decide
        refine ⟨c0, (calls _ _).2 (.inr ⟨.inl xp, r1⟩), by omega, .inr ⟨r3, ?_, ?_⟩⟩
        · rw [act2, if_pos rfl, if_neg xp]; omega
        · rw [e2, if_pos rfl, hx]; exact ⟨k', rfl, i, rfl⟩
    · cases r.thief w0 with
      | same p c => exact absurd (by rw [c]) hne
      | empty _ _ _ _ c => exact absurd (by rw [c]) hne
      | lost _ _ _ _ c => exact absurd (by rw [c]) hne
      | look _ _ _ _ c => exact absurd (by rw [c]) hne
      | got k' p co va t t' b' c =>
        exact ⟨endCall c0 (k : Int) x.code x.value, (calls _ _).2 (.inl ⟨p, rfl, rfl⟩), by show dKind c0 ≠ 0; omega, .inl ⟨co, rfl⟩⟩
  -- what a thief knows
  have hs' : ∀ j, j ≠ 0 → j < q.acts.length → hasT (q.act j).1 → (q.act j).1.t < gt m'.cs 0 → ∀ c1, q.calls[(q.act j).2.toNat]? = some c1 → (j = w → gt m'.cs 0 = gt q.m.cs 0) → Tk (q.go (k : Int) w) (dBeg c1) (q.act j).2.toNat := fun j j0 hj ht hlt c1 hc1 hjw => by
    by_cases z : gt m'.cs 0 = gt q.m.cs 0
    · rw [z] at hlt
      exact keepTk _ _ (bk _ _ hc1) (h.hs j j0 hj ht hlt c1 hc1)
    · have jw : j ≠ w := fun e => z (hjw e)
      have hrj : 0 ≤ (q.act j).2 := by
        rcases Int.lt_or_le (q.act j).2 0 with y | y
        · exact absurd ((pi.run j hj).1 y) (hasT_pc ht)
        · exact y
      obtain ⟨c', y1, y2, y3⟩ := moved z
      refine ⟨_, c', y1, (idx j hj hrj jw).symm, y2, y3.imp (fun ⟨a, b⟩ => ⟨a, by rw [b]; exact bk _ _ hc1⟩) id⟩
  refine ⟨fun j j0 hj ht hlt c1 hc1 => ?_, fun i c hc h6 => ?_⟩
  · rw [e3] at hj
    rw [e1] at hlt
    rw [e2] at ht hlt
    rw [act2] at hc1 ⊢
    by_cases jw : j = w
    · subst jw
      rw [if_pos rfl] at ht hlt hc1 ⊢
      have xp : x.pc ≠ 0 := hasT_pc ht
      rw [if_neg xp] at hc1 ⊢
      have hc1' : q.calls[(q.act j).2.toNat]? = some c1 := by
        rcases (calls _ _).1 hc1 with ⟨z, _⟩ | ⟨_, z⟩
        · exact absurd z xp
        · exact z
      have same : gt m'.cs 0 = gt q.m.cs 0 := by
        cases r.thief j0 with
        | same p c => rw [c]
        | empty _ p => exact absurd p xp
        | lost _ p => exact absurd p xp
        | got _ p => exact absurd p xp
        | look _ p => exact absurd p xp
      by_cases p2 : (q.act j).1.pc = 2
      · exfalso
        obtain ⟨e, l1, l2, l3⟩ := r.log pi.wt
        rw [req2 base p2] at l3
        have hv : v = gt q.m.cs 0 := l3.2.1
        rw [hxe] at ht hlt
        rw [after_t2 p2 ht, hv, same] at hlt
        omega
      · rw [hxe] at ht hlt
        obtain ⟨y1, y2, y3⟩ := hasT_after p2 ht
        rw [y3] at hlt
        exact hs' j j0 hj y1 hlt c1 hc1' (fun _ => same)
    · rw [if_neg jw] at ht hlt hc1 ⊢
      have hrj : 0 ≤ (q.act j).2 := by
        rcases Int.lt_or_le (q.act j).2 0 with y | y
        · exact absurd ((pi.run j hj).1 y) (hasT_pc ht)
        · exact y
      have hc1' : q.calls[(q.act j).2.toNat]? = some c1 := by
        rcases (calls _ _).1 hc1 with ⟨_, z, _⟩ | ⟨_, z⟩
        · exact absurd z (idx j hj hrj jw)
        · exact z
      exact hs' j j0 hj ht hlt c1 hc1' (fun z => absurd z jw)
  · rcases (calls i c).1 hc with ⟨xp, rfl, rfl⟩ | ⟨hne, hc⟩
    · have h6 : x.code = 6 := h6
      have w0 : w ≠ 0 := fun w0 => by
        subst w0
        cases r.own rfl with
        | same p => exact absurd xp p
        | push _ _ co => omega
        | full _ _ co => omega
        | low _ p => exact absurd xp p
        | got _ _ co => omega
        | empty _ _ co => omega
        | won _ p => exact absurd xp p
      cases r.thief w0 with
      | same p => exact absurd xp p
      | empty _ _ co => omega
      | got _ _ co => omega
      | look _ _ co => omega
      | lost k' _ _ _ hcs hlt =>
        have p13 : (q.act w).1.pc = 13 := by
          have hx := hxe
          unfold DOp.after at hx
          rw [if_neg (by omega), if_neg (by omega), if_pos k'] at hx
          cases pi.th w (by omega) hw with
          | idle p => exact absurd p pc
          | st2 _ p => unfold DOp.stolen at hx; rw [if_pos p] at hx; rw [hx] at xp; exact absurd (show (1 : Int) = 0 from xp) (by decide)
          | st1 _ p =>
            unfold DOp.stolen at hx
            rw [if_neg (by omega), if_pos p] at hx
            by_cases z : v ≤ (q.act w).1.t
            · rw [if_pos z] at hx; rw [hx] at h6; exact absurd (show (5 : Int) = 6 from h6) (by decide)
            · rw [if_neg z] at hx; rw [hx] at xp; exact absurd (show (3 : Int) = 0 from xp) (by decide)
          | st3 _ p => unfold DOp.stolen at hx; rw [if_neg (by omega), if_neg (by omega), if_pos p] at hx; rw [hx] at xp; exact absurd (show (4 : Int) = 0 from xp) (by decide)
          | st4 _ p =>
            unfold DOp.stolen at hx
            rw [if_neg (by omega), if_neg (by omega), if_neg (by omega), if_pos p] at hx
            by_cases z : v < 1
            · rw [if_pos z] at hx; rw [hx] at h6; exact absurd (show (1 : Int) = 6 from h6) (by decide)
            · rw [if_neg z] at hx; rw [hx] at xp; exact absurd (show (12 : Int) = 0 from xp) (by decide)
          | st12 _ p => unfold DOp.stolen at hx; rw [if_neg (by omega), if_neg (by omega), if_neg (by omega), if_neg (by omega), if_pos p] at hx; rw [hx] at xp; exact absurd (show (13 : Int) = 0 from xp) (by decide)
          | st13 _ p => exact p
          | lk2 k'' => omega
          | lk1 k'' => omega
        have ht : hasT (q.act w).1 := .inl ⟨k', by omega⟩
        obtain ⟨j, c', z1, z2, z3, z4⟩ := h.hs w w0 hw ht hlt c0 r1
        obtain ⟨c'', y1, y2, y3, y4⟩ := keepT j c' (dBeg c0) z1 z3 (bk _ _ r1) z4
        exact ⟨j, c'', y1, z2, y2, by rw [y3]; exact bk _ _ z1, y4⟩
    · obtain ⟨j, c', z1, z2, z3, z4, z5⟩ := h.lo i c hc h6
      have hb : dBeg c ≤ (k : Int) := bk _ _ hc
      obtain ⟨c'', y1, y2, y3, y4⟩ := keepT j c' (dBeg c) z1 z3 hb z5
      exact ⟨j, c'', y1, z2, y2, by rw [y3]; exact z4, y4⟩
theorem stN_lo {low most thieves : Int} {todos : List DTd} {picks : List Int} (hj : judgeE low most todos thieves picks = 0) {k : Nat} (hk : k ≤ picks.length) : LO (stN low most todos thieves picks k) := by
  refine stN_ind hj (P := fun k p => LO p) ⟨fun w _ _ ht => ?_, fun i c h => (by cases h)⟩ (fun k w a h _ _ => h) (fun k w q v m' x a h aq r _ => ?_) hk
  · exfalso
    have ea : ((ps0 low most todos thieves).act w).1 = DOp.zero := by
      show ((List.replicate (1 + thieves).toNat (DOp.zero, (-1 : Int)))[w]?.getD (DOp.zero, -1)).1 = _
      rw [List.getElem?_replicate]
      split <;> rfl
    rw [ea] at ht
    unfold hasT DOp.zero at ht
    dsimp only at ht
    omega
  · exact (h.pre (by rw [a.al]; exact a.wl) a.pi aq.pre).go aq.ai aq.hi (aq.wl a) aq.run aq.pi (by have := a.lt; obtain ⟨_, j2, _⟩ := judge_ok hj; omega) r
end Go.Mx
