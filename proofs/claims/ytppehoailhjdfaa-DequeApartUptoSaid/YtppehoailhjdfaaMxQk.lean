/-
  A play of one deque: what holds at each pick.
-/
import Derived.Test.YtppehoailhjdfaaMxQj
set_option linter.unusedVariables false
set_option linter.unusedSimpArgs false
set_option linter.unusedSectionVars false
namespace Go.Mx

/-- What holds between the picks. -/
structure PI (most : Int) (p : PS) (N : Int) : Prop where
  pos : 0 < p.acts.length
  dg : DG most p.m.sz N p.m.cs (p.act 0).1
  os : OwnS most p.m.cs (p.act 0).1
  th : ∀ i, 1 ≤ i → i < p.acts.length → ThS p.m.cs (p.act 0).1 (p.act i).1
  mach : ∀ i, i < p.acts.length → Mach most (p.act i).1
  kind : ∀ i, 1 ≤ i → i < p.acts.length → (p.act i).1.pc ≠ 0 → (p.act i).1.kind = 3
  run : ∀ i, i < p.acts.length → ((p.act i).2 < 0 ↔ (p.act i).1.pc = 0)
  call : ∀ i, i < p.acts.length → (p.act i).2 < (p.calls.length : Int)
  wt : p.m.wt = true

theorem act_set {p : PS} {i j : Nat} {x : DOp × Int} (hi : i < p.acts.length) : ({ p with acts := p.acts.set i x } : PS).act j = if j = i then x else p.act j := by
  unfold PS.act
  dsimp only
  by_cases e : j = i
  · subst e; rw [if_pos rfl, List.getElem?_set_self hi]; rfl
  · rw [if_neg e, List.getElem?_set_ne (fun q => e q.symm)]
theorem begin_eq {k pc base most v : Int} (h1 : 1 ≤ most) (h2 : most ≤ 4096) : DOp.begin k pc base most v = ⟨k, pc, base, most, v, 0, 0, 0, 0, 0, 0, 0, 0, false, 0, 0⟩ := by
  unfold DOp.begin
  rw [if_neg (by omega), if_neg (by omega)]

/-- The state behind the taking up of a call, if there is one. -/
def PS.pre (most : Int) (p : PS) (n : Int) (who : Nat) : Option PS := if (p.act who).2 < 0 then p.begin most n who else some p
theorem PS.step_pre (most : Int) (p : PS) (n : Int) (who : Nat) : p.step most n who = match p.pre most n who with | none => p | some q => q.go n who := by
  unfold PS.step PS.pre
  by_cases e : (p.act who).2 < 0
  · rw [if_pos e, if_pos e]; rfl
  · rw [if_neg e, if_neg e]

theorem DG.re {most sz N : Int} {cs : List Int} {own own' : DOp} (g : DG most sz N cs own) (hb : Bl cs own' = Bl cs own) (hn : newer own' = newer own) : DG most sz N cs own' := by
  obtain ⟨g1, g2, g3, g4, g5, g6, g7, g8, g9, g10, g11, g12, g13⟩ := g
  exact ⟨g1, g2, by rw [hb]; exact g3, by rw [hb]; exact g4, by rw [hb]; exact g5, g6, g7, g8, g9, by rw [hn]; exact g10, g11, g12, g13⟩
/-- What the taking up of a call does. -/
inductive PreR (most : Int) (p : PS) (n : Int) (who : Nat) (q : PS) : Prop
  | on (h : 0 ≤ (p.act who).2) (e : q = p)
  | push (w : who = 0) (h : (p.act 0).2 < 0) (t : DTd) (ts : List DTd) (et : p.todos = t :: ts) (k : t.1 = 0) (e : q = { p with todos := ts, acts := p.acts.set 0 (DOp.push 0 most t.2.1, (p.calls.length : Int)), calls := p.calls ++ [newCall 0 t.1 t.2.1 n] })
  | pop (w : who = 0) (h : (p.act 0).2 < 0) (t : DTd) (ts : List DTd) (et : p.todos = t :: ts) (k : ¬ t.1 = 0) (e : q = { p with todos := ts, acts := p.acts.set 0 (DOp.pop 0 most, (p.calls.length : Int)), calls := p.calls ++ [newCall 0 t.1 0 n] })
  | steal (w : who ≠ 0) (h : (p.act who).2 < 0) (e : q = { p with acts := p.acts.set who (DOp.steal 0 most, (p.calls.length : Int)), calls := p.calls ++ [newCall (who : Int) 2 0 n] })
theorem pre_cases {most : Int} {p : PS} {n : Int} {who : Nat} {q : PS} (h : p.pre most n who = some q) : PreR most p n who q := by
  unfold PS.pre at h
  by_cases e : (p.act who).2 < 0
  · rw [if_pos e] at h
    unfold PS.begin at h
    by_cases w : who = 0
    · subst w
      rw [if_pos rfl] at h
      cases ht : p.todos with
      | nil => rw [ht] at h; cases h
      | cons t ts =>
        rw [ht] at h
        dsimp only at h
        cases h
        by_cases k : t.1 = 0
        · exact .push rfl e t ts ht k (by rw [if_pos k, if_pos k])
        · exact .pop rfl e t ts ht k (by rw [if_neg k, if_neg k])
    · rw [if_neg w] at h
      cases h
      exact .steal w e rfl
  · rw [if_neg e] at h
    cases h
    exact .on (by omega) rfl
theorem pre_none {most : Int} {p : PS} {n : Int} {who : Nat} (h : p.pre most n who = none) : who = 0 ∧ (p.act 0).2 < 0 ∧ p.todos = [] := by
  unfold PS.pre at h
  by_cases e : (p.act who).2 < 0
  · rw [if_pos e] at h
    unfold PS.begin at h
    by_cases w : who = 0
    · subst w
      rw [if_pos rfl] at h
      cases ht : p.todos with
      | nil => exact ⟨rfl, e, rfl⟩
      | cons t ts => rw [ht] at h; cases h
    · rw [if_neg w] at h; cases h
  · rw [if_neg e] at h; cases h

theorem PI.pre {most : Int} {p : PS} {N : Int} (h : PI most p N) {n : Int} {who : Nat} (hw : who < p.acts.length) {q : PS} (e : p.pre most n who = some q) :
    PI most q N ∧ q.m = p.m ∧ q.acts.length = p.acts.length ∧ (q.act who).1.pc ≠ 0 ∧ 0 ≤ (q.act who).2 ∧ ctn q.m.cs = ctn p.m.cs ∧ hand q.m.cs (q.act 0).1 = hand p.m.cs (p.act 0).1 := by
  obtain ⟨h0, h1, h2, h3, h4, h5, h6, h7, h8⟩ := h
  have m1 : 1 ≤ most := by have := h1.c1; have := h1.cm; omega
  have m2 := h1.mx
  have own : ∀ (x : DOp) (y : DCl) (ts : List DTd), (p.act 0).2 < 0 → x.base = 0 → x.most = most → x.pc = 1 → (x.kind = 1 ∨ x.kind = 2) → x.i = 0 → x.won = false → PI most { p with todos := ts, acts := p.acts.set 0 (x, (p.calls.length : Int)), calls := p.calls ++ [y] } N ∧
      hand p.m.cs x = hand p.m.cs (p.act 0).1 := fun x y ts e0 b hm p1 k i w => by
    have pc0 := (h6 0 h0).1 e0
    have l0 : ¬ lowered (p.act 0).1 := lowp (.inl pc0)
    have l1 : ¬ lowered x := lowp (.inr (.inl p1))
    have e : ∀ j, ({ p with todos := ts, acts := p.acts.set 0 (x, (p.calls.length : Int)), calls := p.calls ++ [y] } : PS).act j = if j = 0 then (x, (p.calls.length : Int)) else p.act j := fun j => act_set (p := p) h0
    have cl : (((p.calls ++ [y]).length : Nat) : Int) = (p.calls.length : Int) + 1 := by rw [List.length_append]; simp
    refine ⟨⟨by show 0 < (p.acts.set _ _).length; rw [List.length_set]; exact h0, ?_, ?_, fun j j1 j2 => ?_, fun j j2 => ?_, fun j j1 j2 => ?_, fun j j2 => ?_, fun j j2 => ?_, h8⟩, ?_⟩
    · rw [e, if_pos rfl]
      exact h1.re (by rw [Bl_up l0]; exact Bl_up l1) (by rw [new0 (o := (p.act 0).1) (by omega)]; exact new0 (.inr (.inl (show x.pc < 6 by omega))))
    · rw [e, if_pos rfl]
      rcases k with k | k
      · exact .pu1 k p1
      · exact .po1 k p1 i w
    · rw [e, if_pos rfl, e, if_neg (by omega)]
      refine (h3 j j1 (by simpa using j2)).own fun v => v.elim .inl fun v => absurd v.2.1 l0
    · rw [e]
      split
      · exact fun _ => ⟨b, hm⟩
      · exact h4 j (by simpa using j2)
    · rw [e, if_neg (by omega)]
      exact h5 j j1 (by simpa using j2)
    · rw [e]
      split
      · exact ⟨fun q => absurd (show (p.calls.length : Int) < 0 from q) (by omega), fun q => absurd (show x.pc = 0 from q) (by omega)⟩
      · exact h6 j (by simpa using j2)
    · rw [e]
      show _ < (((p.calls ++ [y]).length : Nat) : Int)
      rw [cl]
      split
      · show (p.calls.length : Int) < _; omega
      · have := h7 j (by simpa using j2); omega
    · rw [handp (.inl pc0), handp (.inr (.inl p1))]
  have ea : ∀ (x : DOp) (y : DCl) (ts : List DTd) (i : Nat), i < p.acts.length → ({ p with todos := ts, acts := p.acts.set i (x, (p.calls.length : Int)), calls := p.calls ++ [y] } : PS).act i = (x, (p.calls.length : Int)) := fun x y ts i hi => by
    have := act_set (p := p) (i := i) (j := i) (x := (x, (p.calls.length : Int))) hi
    rw [if_pos rfl] at this
    exact this
  have z0 : (0 : Int) ≤ (p.calls.length : Int) := Int.natCast_nonneg _
  have len : ∀ {i : Nat} {x : DOp × Int}, (p.acts.set i x).length = p.acts.length := List.length_set
  cases pre_cases e with
  | on h eq =>
    subst eq
    refine ⟨⟨h0, h1, h2, h3, h4, h5, h6, h7, h8⟩, rfl, rfl, fun z => ?_, h, rfl, rfl⟩
    have := (h6 who hw).2 z; omega
  | push w h t ts et k eq =>
    subst w; subst eq
    have hb : DOp.push 0 most t.2.1 = _ := begin_eq m1 m2
    obtain ⟨a, b⟩ := own (DOp.push 0 most t.2.1) (newCall 0 t.1 t.2.1 n) ts h (by rw [hb]) (by rw [hb]) (by rw [hb]) (by rw [hb]; exact .inl rfl) (by rw [hb]) (by rw [hb])
    refine ⟨a, rfl, len, ?_, ?_, rfl, ?_⟩ <;> rw [ea _ _ _ 0 h0]
    · rw [hb]; exact fun z => absurd (show (1 : Int) = 0 from z) (by decide)
    · exact z0
    · exact b
  | pop w h t ts et k eq =>
    subst w; subst eq
    have hb : DOp.pop 0 most = _ := begin_eq m1 m2
    obtain ⟨a, b⟩ := own (DOp.pop 0 most) (newCall 0 t.1 0 n) ts h (by rw [hb]) (by rw [hb]) (by rw [hb]) (by rw [hb]; exact .inr rfl) (by rw [hb]) (by rw [hb])
    refine ⟨a, rfl, len, ?_, ?_, rfl, ?_⟩ <;> rw [ea _ _ _ 0 h0]
    · rw [hb]; exact fun z => absurd (show (1 : Int) = 0 from z) (by decide)
    · exact z0
    · exact b
  | steal w h eq =>
    subst eq
    have hb : DOp.steal 0 most = _ := begin_eq m1 m2
    have e : ∀ j, ({ p with acts := p.acts.set who (DOp.steal 0 most, (p.calls.length : Int)), calls := p.calls ++ [newCall (who : Int) 2 0 n] } : PS).act j = if j = who then (DOp.steal 0 most, (p.calls.length : Int)) else p.act j := fun j => act_set (p := p) hw
    have e0 : ({ p with acts := p.acts.set who (DOp.steal 0 most, (p.calls.length : Int)), calls := p.calls ++ [newCall (who : Int) 2 0 n] } : PS).act 0 = p.act 0 := by rw [e, if_neg (by omega)]
    have cl : (((p.calls ++ [newCall (who : Int) 2 0 n]).length : Nat) : Int) = (p.calls.length : Int) + 1 := by rw [List.length_append]; simp
    refine ⟨⟨by show 0 < (p.acts.set _ _).length; rw [len]; exact h0, by rw [e0]; exact h1, by rw [e0]; exact h2, fun j j1 j2 => ?_, fun j j2 => ?_, fun j j1 j2 => ?_, fun j j2 => ?_, fun j j2 => ?_, h8⟩, rfl, len, ?_, ?_, rfl, by rw [e0]⟩
    · rw [e0, e]
      split
      · rw [hb]; exact .st2 rfl rfl
      · exact h3 j j1 (by simpa using j2)
    · rw [e]
      split
      · rw [hb]; exact fun _ => ⟨rfl, rfl⟩
      · exact h4 j (by simpa using j2)
    · rw [e]
      split
      · rw [hb]; exact fun _ => rfl
      · exact h5 j j1 (by simpa using j2)
    · rw [e]
      split
      · rw [hb]; exact ⟨fun q => absurd (show (p.calls.length : Int) < 0 from q) (by omega), fun q => absurd (show (2 : Int) = 0 from q) (by decide)⟩
      · exact h6 j (by simpa using j2)
    · rw [e]
      show _ < (((p.calls ++ [newCall (who : Int) 2 0 n]).length : Nat) : Int)
      rw [cl]
      split
      · show (p.calls.length : Int) < _; omega
      · have := h7 j (by simpa using j2); omega
    · rw [e, if_pos rfl, hb]; exact fun z => absurd (show (2 : Int) = 0 from z) (by decide)
    · rw [e, if_pos rfl]; exact z0

/-- What a step does to the game. -/
structure GoR (most : Int) (q : PS) (n : Int) (who : Nat) (v : Int) (m' : AS) (x : DOp) (N : Int) : Prop where
  acc : arenaI { q.m with who := (who : Int) } (q.act who).1.req = (some v, m')
  ex : x = (q.act who).1.after v
  on : x.pc ≠ 0 → q.go n who = { q with m := m', acts := q.acts.set who (x, (q.act who).2) }
  off : x.pc = 0 → q.go n who = { q with m := m', acts := q.acts.set who (x, -1), calls := endAt q.calls (q.act who).2.toNat n x.code x.value }
  pi : PI most (q.go n who) (N + 1)
  own : who = 0 → OEff q.m.cs (q.act 0).1 m'.cs x
  thief : who ≠ 0 → TEff q.m.cs (q.act 0).1 (q.act who).1 m'.cs x
  cc : cC m'.cs = if who = 0 ∧ (q.act 0).1.kind = 1 ∧ (q.act 0).1.pc = 9 then (q.act 0).1.c2 else cC q.m.cs
  bl : Bl m'.cs (if who = 0 then x else (q.act 0).1) ≤ Bl q.m.cs (q.act 0).1 ∨ (who = 0 ∧ (q.act 0).1.kind = 1 ∧ (q.act 0).1.pc = 11 ∧ Bl m'.cs (if who = 0 then x else (q.act 0).1) ≤ Bl q.m.cs (q.act 0).1 + 1)
theorem PI.go {most : Int} {q : PS} {N : Int} (h : PI most q N) (nn : N + 1 ≤ 1000000000) {n : Int} {who : Nat} (hw : who < q.acts.length) (pc : (q.act who).1.pc ≠ 0) : ∃ v m' x, GoR most q n who v m' x N := by
  obtain ⟨h0, h1, h2, h3, h4, h5, h6, h7, h8⟩ := h
  have hnw := newer_nn h2 h1.c1 h1.cm
  have hk : ∀ v, ((q.act who).1.after v).kind = (q.act who).1.kind := fun v => ((q.act who).1.after_same v).1
  have kz : (q.act who).1.kind ≠ 0 := by
    by_cases e : who = 0
    · subst e
      cases h2 with
      | idle p => exact absurd p pc
      | pu1 k | pu2 k | pu3 k | pu4 k | pu5 k | pu6 k | pu7 k | pu8 k | pu9 k | pu10 k | pu11 k | po1 k | po3 k | po11 k | po2 k | po4 k | po12 k | po13 k | pe k | pf k => omega
    · have := h5 who (by omega) hw pc; omega
  have xz : ∀ v, (q.act who).1.after v ≠ DOp.zero := fun v z => by
    have := hk v
    rw [z] at this
    exact kz this.symm
  have ans : ∀ v, ((q.act who).1.after v).answer = if ((q.act who).1.after v).pc ≠ 0 then (0, 0) else (((q.act who).1.after v).code, ((q.act who).1.after v).value) := fun v => by
    unfold DOp.answer
    rw [if_neg (xz v)]
  -- the game's step, once the machine's is known
  have fin : ∀ (v : Int) (m' : AS), arenaI { q.m with who := (who : Int) } (q.act who).1.req = (some v, m') → (((q.act who).1.after v).pc = 0 → ((q.act who).1.after v).code ≠ 0) →
      (((q.act who).1.after v).pc ≠ 0 → q.go n who = { q with m := m', acts := q.acts.set who ((q.act who).1.after v, (q.act who).2) }) ∧
      (((q.act who).1.after v).pc = 0 → q.go n who = { q with m := m', acts := q.acts.set who ((q.act who).1.after v, -1), calls := endAt q.calls (q.act who).2.toNat n ((q.act who).1.after v).code ((q.act who).1.after v).value }) := fun v m' ha hc => by
    have hs : stepD arenaI { q.m with who := (who : Int) } (q.act who).1 = (m', (q.act who).1.after v) := step_some pc ha
    have hgo : q.go n who = if ((q.act who).1.after v).answer.1 = 0 then { q with m := m', acts := q.acts.set who ((q.act who).1.after v, (q.act who).2) } else { q with m := m', acts := q.acts.set who ((q.act who).1.after v, -1), calls := endAt q.calls (q.act who).2.toNat n ((q.act who).1.after v).answer.1 ((q.act who).1.after v).answer.2 } := by
      unfold PS.go; rw [hs]
    refine ⟨fun p => ?_, fun p => ?_⟩
    · rw [hgo, ans, if_pos p, if_pos rfl]
    · have z : ¬ ((q.act who).1.after v).pc ≠ 0 := fun z => z p
      rw [hgo, ans, if_neg z, if_neg (show ¬ ((q.act who).1.after v).code = 0 from hc p)]
  have lend : ∀ {v : Int}, (endAt q.calls (q.act who).2.toNat n ((q.act who).1.after v).code ((q.act who).1.after v).value).length = q.calls.length := fun {v} => endAt_len _ _ _ _ _
  have cnn := h7 who hw
  -- the new state's parts
  have mk : ∀ (v : Int) (m' : AS) (c : Int) (cl : List DCl), cl.length = q.calls.length → (c = (q.act who).2 ∧ ((q.act who).1.after v).pc ≠ 0 ∨ c = -1 ∧ ((q.act who).1.after v).pc = 0) → m'.wt = true → DG most m'.sz (N + 1) m'.cs (if who = 0 then (q.act who).1.after v else (q.act 0).1) → OwnS most m'.cs (if who = 0 then (q.act who).1.after v else (q.act 0).1) →
      (who ≠ 0 → ThS m'.cs (q.act 0).1 ((q.act who).1.after v)) → (∀ t, ThS q.m.cs (q.act 0).1 t → ThS m'.cs (if who = 0 then (q.act who).1.after v else (q.act 0).1) t) → PI most { q with m := m', acts := q.acts.set who ((q.act who).1.after v, c), calls := cl } (N + 1) := fun v m' c cl hcl hc hwt hd ho ht hts => by
    have e : ∀ j, ({ q with m := m', acts := q.acts.set who ((q.act who).1.after v, c), calls := cl } : PS).act j = if j = who then ((q.act who).1.after v, c) else q.act j := fun j => act_set (p := q) hw
    have e0 : (({ q with m := m', acts := q.acts.set who ((q.act who).1.after v, c), calls := cl } : PS).act 0).1 = if who = 0 then (q.act who).1.after v else (q.act 0).1 := by
      rw [e]
      by_cases z : who = 0
      · rw [if_pos z.symm, if_pos z]
      · rw [if_neg (fun q => z q.symm), if_neg z]
    have len : (q.acts.set who ((q.act who).1.after v, c)).length = q.acts.length := List.length_set
    refine ⟨by show 0 < (q.acts.set _ _).length; rw [len]; exact h0, by rw [e0]; exact hd, by rw [e0]; exact ho, fun j j1 j2 => ?_, fun j j2 => ?_, fun j j1 j2 => ?_, fun j j2 => ?_, fun j j2 => ?_, hwt⟩
    · rw [e0, e]
      by_cases z : j = who
      · rw [if_pos z, if_neg (by omega)]; exact ht (by omega)
      · rw [if_neg z]; exact hts _ (h3 j j1 (by simpa using j2))
    · rw [e]
      by_cases z : j = who
      · rw [if_pos z]
        intro _
        obtain ⟨a1, a2, a3, a4⟩ := (q.act who).1.after_same v
        obtain ⟨b1, b2⟩ := h4 who hw pc
        exact ⟨a2.trans b1, a3.trans b2⟩
      · rw [if_neg z]; exact h4 j (by simpa using j2)
    · rw [e]
      by_cases z : j = who
      · rw [if_pos z]; intro _; rw [hk v]; exact h5 who (by omega) hw pc
      · rw [if_neg z]; exact h5 j j1 (by simpa using j2)
    · rw [e]
      by_cases z : j = who
      · rw [if_pos z]
        rcases hc with ⟨hc, hp⟩ | ⟨hc, hp⟩
        · exact ⟨fun q1 => absurd ((h6 who hw).1 (by rw [← hc]; exact q1)) pc, fun q1 => absurd q1 hp⟩
        · exact ⟨fun _ => hp, fun _ => by show c < 0; omega⟩
      · rw [if_neg z]; exact h6 j (by simpa using j2)
    · rw [e]
      show _ < ((cl.length : Nat) : Int)
      rw [hcl]
      by_cases z : j = who
      · rw [if_pos z]
        show c < _
        rcases hc with ⟨hc, _⟩ | ⟨hc, _⟩ <;> omega
      · rw [if_neg z]; exact h7 j (by simpa using j2)
  -- put together
  have put : ∀ (v : Int) (m' : AS), arenaI { q.m with who := (who : Int) } (q.act who).1.req = (some v, m') → (((q.act who).1.after v).pc = 0 → ((q.act who).1.after v).code ≠ 0) → m'.wt = true → DG most m'.sz (N + 1) m'.cs (if who = 0 then (q.act who).1.after v else (q.act 0).1) → OwnS most m'.cs (if who = 0 then (q.act who).1.after v else (q.act 0).1) →
      (who ≠ 0 → ThS m'.cs (q.act 0).1 ((q.act who).1.after v)) → (∀ t, ThS q.m.cs (q.act 0).1 t → ThS m'.cs (if who = 0 then (q.act who).1.after v else (q.act 0).1) t) → (who = 0 → OEff q.m.cs (q.act 0).1 m'.cs ((q.act who).1.after v)) → (who ≠ 0 → TEff q.m.cs (q.act 0).1 (q.act who).1 m'.cs ((q.act who).1.after v)) → (cC m'.cs = if who = 0 ∧ (q.act 0).1.kind = 1 ∧ (q.act 0).1.pc = 9 then (q.act 0).1.c2 else cC q.m.cs) → (Bl m'.cs (if who = 0 then (q.act who).1.after v else (q.act 0).1) ≤ Bl q.m.cs (q.act 0).1 ∨ (who = 0 ∧ (q.act 0).1.kind = 1 ∧ (q.act 0).1.pc = 11 ∧ Bl m'.cs (if who = 0 then (q.act who).1.after v else (q.act 0).1) ≤ Bl q.m.cs (q.act 0).1 + 1)) → ∃ v m' x, GoR most q n who v m' x N :=
    fun v m' ha hc hwt hd ho ht hts he1 he2 hcc hbl => by
      obtain ⟨f1, f2⟩ := fin v m' ha hc
      refine ⟨v, m', (q.act who).1.after v, ha, rfl, f1, f2, ?_, he1, he2, hcc, hbl⟩
      by_cases z : ((q.act who).1.after v).pc = 0
      · rw [f2 z]; exact mk v m' (-1) _ lend (.inr ⟨rfl, z⟩) hwt hd ho ht hts
      · rw [f1 z]; exact mk v m' _ q.calls rfl (.inl ⟨rfl, z⟩) hwt hd ho ht hts
  have fit : ∀ {v m'}, arenaI { q.m with who := (who : Int) } (q.act who).1.req = (some v, m') → m'.wt = true ∧ m'.sz = q.m.sz := fun {v m'} ha => by
    have := (AS.Fit.act (s := { q.m with who := (who : Int) }) (n := q.m.lg.length) ⟨Nat.le_refl _, h1.le, h1.szb⟩ (q.act who).1.req).2
    rw [ha] at this
    exact ⟨this.2.2.trans h8, this.1⟩
  by_cases z : who = 0
  · subst z
    have main : ∀ {v : Int} {m' : AS}, arenaI { q.m with who := ((0 : Nat) : Int) } (q.act 0).1.req = (some v, m') → OwnR most q.m.sz N { q.m with who := ((0 : Nat) : Int) } (q.act 0).1 m' ((q.act 0).1.after v) → ∃ v m' x, GoR most q n 0 v m' x N := fun {v m'} ha r => by
      obtain ⟨r1, r2, r3, r4, r5, r6⟩ := r
      obtain ⟨w1, w2⟩ := fit ha
      refine put v m' ha (fun p => ?_) w1 (by rw [if_pos rfl, w2]; exact r1) (by rw [if_pos rfl]; exact r2) (fun z => absurd rfl z) (fun t ht => by rw [if_pos rfl]; exact r3 t ht) (fun _ => r4) (fun z => absurd rfl z) (by rw [r5]; simp only [true_and]) (by rw [if_pos rfl]; exact r6.imp id fun q => ⟨rfl, q⟩)
      cases r4 with
      | same p' => exact absurd p p'
      | push _ _ c => omega
      | full _ _ c => omega
      | low _ p' => exact absurd p p'
      | got _ _ c => omega
      | empty _ _ c => omega
      | won _ p' => exact absurd p p'
    by_cases k : (q.act 0).1.kind = 1
    · obtain ⟨v, m', ha, r⟩ := own_push (s := { q.m with who := ((0 : Nat) : Int) }) h1 nn rfl (h4 0 h0) h2 k pc
      exact main ha r
    · have k2 : (q.act 0).1.kind = 2 := by
        cases h2 with
        | idle p => exact absurd p pc
        | pu1 k' | pu2 k' | pu3 k' | pu4 k' | pu5 k' | pu6 k' | pu7 k' | pu8 k' | pu9 k' | pu10 k' | pu11 k' => exact absurd k' k
        | po1 k' | po3 k' | po11 k' | po2 k' | po4 k' | po12 k' | po13 k' | pe k' | pf k' => exact k'
      obtain ⟨v, m', ha, r⟩ := own_pop (s := { q.m with who := ((0 : Nat) : Int) }) h1 nn rfl (h4 0 h0) h2 k2 pc
      exact main ha r
  · obtain ⟨v, m', ha, r⟩ := th_step (s := { q.m with who := (who : Int) }) h1 hnw (h4 who hw) h2 (h3 who (by omega) hw) pc
    obtain ⟨r1, r2, r3, r4, r5, r6, r7⟩ := r
    obtain ⟨w1, w2⟩ := fit ha
    have up : DG most m'.sz (N + 1) m'.cs (q.act 0).1 := by
      obtain ⟨g1, g2, g3, g4, g5, g6, g7, g8, g9, g10, g11, g12, g13⟩ := r1
      rw [w2]
      exact ⟨g1, g2, g3, g4, by omega, nn, g7, g8, g9, g10, g11, g12, g13⟩
    refine put v m' ha (fun p => ?_) w1 (by rw [if_neg z]; exact up) (by rw [if_neg z]; exact r2) (fun _ => r3) (fun t ht => by rw [if_neg z]; exact r4 t ht) (fun y => absurd y z) (fun _ => r5) (by rw [r6, if_neg (fun y => z y.1)]) (.inl (by rw [if_neg z]; exact Int.le_of_eq r7))
    cases r5 with
    | same p' => exact absurd p p'
    | empty _ _ c => omega
    | lost _ _ c => omega
    | got _ _ c => omega
    | look _ _ c => omega

theorem ps0_pi {low most : Int} {todos : List DTd} {thieves : Int} (hc : CapE low most) (ht : 0 ≤ thieves) : PI most (ps0 low most todos thieves) 0 := by
  obtain ⟨c1, c2, c3⟩ := hc
  have hb := cellsOf_bound ⟨c1, c2, c3⟩
  have ea' : ∀ i, (ps0 low most todos thieves).act i = (DOp.zero, (-1 : Int)) := fun i => by
    show (List.replicate (1 + thieves).toNat (DOp.zero, (-1 : Int)))[i]?.getD (DOp.zero, -1) = _
    cases e : (List.replicate (1 + thieves).toNat (DOp.zero, (-1 : Int)))[i]? with
    | none => rfl
    | some y =>
      have := (List.mem_replicate.1 (List.mem_of_getElem? e)).2
      subst this
      rfl
  have ea : ∀ i, ((ps0 low most todos thieves).act i).1 = DOp.zero ∧ ((ps0 low most todos thieves).act i).2 = -1 := fun i => by rw [ea' i]; exact ⟨rfl, rfl⟩
  have hl : (([] : List Int) ++ List.replicate (4 + low).toNat 0).length = (4 + low).toNat := by simp
  have s2 : ∀ y, 0 ≤ y → gt (laid low []) y = if y = 3 then low else if y = 2 then 3 else 0 := fun y hy => by
    unfold laid
    show gt ((((([] : List Int) ++ List.replicate (4 + low).toNat 0).set (0 + 2) (0 + 3)).set (0 + 3) low)) y = _
    have a := gt_set (cs := (([] : List Int) ++ List.replicate (4 + low).toNat 0).set (2 : Int).toNat 3) (x := 3) (v := low) (y := y) (by omega) (by rw [List.length_set, hl]; omega) hy
    have b := gt_set (cs := (([] : List Int) ++ List.replicate (4 + low).toNat 0)) (x := 2) (v := 3) (y := y) (by omega) (by rw [hl]; omega) hy
    rw [gt_app] at b
    have z : gt ([] : List Int) y = 0 := rfl
    rw [z] at b
    rw [b] at a
    exact a
  have g0 : gt (laid low []) 0 = 0 := by rw [s2 0 (by omega)]; rfl
  have g1 : gt (laid low []) 1 = 0 := by rw [s2 1 (by omega)]; rfl
  have gA : cA (laid low []) = 3 := by show gt _ 2 = 3; rw [s2 2 (by omega)]; rfl
  have gC : cC (laid low []) = low := by show gt _ (cA _) = low; rw [gA, s2 3 (by omega)]; rfl
  have hp : 0 < (ps0 low most todos thieves).acts.length := by show 0 < (List.replicate _ _).length; rw [List.length_replicate]; omega
  refine ⟨hp, ?_, ?_, fun i _ _ => ?_, fun i _ => ?_, fun i _ _ q => ?_, fun i _ => ?_, fun i _ => ?_, rfl⟩
  · rw [(ea 0).1]
    have hB : Bl (laid low []) DOp.zero = 0 := (Bl_up (lowp (.inl rfl))).trans g1
    have hn : newer DOp.zero = 0 := new0 (.inl (by decide))
    refine ⟨c3, ?_, ?_, ?_, ?_, by omega, ?_, ?_, ?_, ?_, hb.2, ?_, ?_⟩
    · show 0 ≤ gt (laid low []) 0; omega
    · show gt (laid low []) 0 ≤ Bl (laid low []) _; omega
    · show Bl (laid low []) _ - gt (laid low []) 0 ≤ cC (laid low []); omega
    · show Bl (laid low []) _ ≤ 0; omega
    · show 3 ≤ cA (laid low []); omega
    · show 1 ≤ cC (laid low []); omega
    · show cC (laid low []) ≤ most; omega
    · show ((laid low []).length : Int) = cA (laid low []) + cC (laid low []) + 1 + newer _; rw [laid_len low c1]; omega
    · show ((laid low []).length : Int) ≤ cellsOf low most; rw [laid_len low c1]; omega
    · show ∃ k : Nat, most - cC (laid low []) ≤ (k : Int) ∧ cellsGo most k (cA (laid low []) + cC (laid low []) + 1) (cC (laid low [])) = cellsOf low most
      rw [gA, gC]
      refine ⟨4096, by omega, ?_⟩
      unfold cellsOf
      congr 1; omega
  · rw [(ea 0).1]; exact .idle rfl
  · rw [(ea i).1]; exact .idle rfl
  · rw [(ea i).1]; exact fun q => absurd rfl q
  · rw [(ea i).1] at q; exact absurd rfl q
  · rw [(ea i).1, (ea i).2]; exact ⟨fun _ => rfl, fun _ => by decide⟩
  · rw [(ea i).2]; show (-1 : Int) < 0; decide

theorem PI.step {most : Int} {p : PS} {N : Int} (h : PI most p N) (nn : N + 1 ≤ 1000000000) {n : Int} {who : Nat} (hw : who < p.acts.length) : PI most (p.step most n who) (N + 1) := by
  rw [PS.step_pre]
  cases e : p.pre most n who with
  | none =>
    show PI most p (N + 1)
    obtain ⟨h0, h1, h2, h3, h4, h5, h6, h7, h8⟩ := h
    obtain ⟨g1, g2, g3, g4, g5, g6, g7, g8, g9, g10, g11, g12, g13⟩ := h1
    exact ⟨h0, ⟨g1, g2, g3, g4, by omega, nn, g7, g8, g9, g10, g11, g12, g13⟩, h2, h3, h4, h5, h6, h7, h8⟩
  | some q =>
    obtain ⟨h1, h2, h3, h4, h5, _⟩ := h.pre hw e
    obtain ⟨v, m', x, r⟩ := h1.go nn (n := n) (who := who) (by omega) h4
    exact r.pi
theorem step_len {most : Int} {p : PS} {n : Int} {who : Nat} : (p.step most n who).acts.length = p.acts.length := by
  rw [PS.step_pre]
  cases e : p.pre most n who with
  | none => rfl
  | some q =>
    have h1 : (q.go n who).acts.length = q.acts.length := by
      unfold PS.go
      exact pif (P := fun r : PS => r.acts.length = q.acts.length) (fun _ => List.length_set) (fun _ => List.length_set)
    have h2 : q.acts.length = p.acts.length := by
      cases pre_cases e with
      | on _ e => rw [e]
      | push _ _ _ _ _ _ e => rw [e]; exact List.length_set
      | pop _ _ _ _ _ _ e => rw [e]; exact List.length_set
      | steal _ _ e => rw [e]; exact List.length_set
    exact h1.trans h2
theorem PI.runs {most : Int} : ∀ (ws : List Nat) {p : PS} {n : Nat} {N : Int}, PI most p N → N + (ws.length : Int) ≤ 1000000000 → (∀ w ∈ ws, w < p.acts.length) → PI most (p.run most n ws) (N + (ws.length : Int))
  | [], p, n, N, h, _, _ => by
    show PI most p (N + 0)
    rw [Int.add_zero]; exact h
  | w :: ws, p, n, N, h, hN, hw => by
    have hl : ((w :: ws).length : Int) = (ws.length : Int) + 1 := by simp
    have h1 := h.step (n := (n : Int)) (by omega) (hw w (by simp))
    have h2 := PI.runs ws (n := n + 1) h1 (by omega) (fun x hx => by rw [step_len]; exact hw x (by simp [hx]))
    rw [hl, show N + ((ws.length : Int) + 1) = N + 1 + (ws.length : Int) from by omega]
    exact h2

end Go.Mx
