/-
  hist's histories are the reference's.
-/
import Derived.Test.YtanfmmcpjifgiaaMxLa
set_option linter.unusedVariables false
set_option linter.unusedSimpArgs false
namespace Go.Mx

theorem aget_aset {n : Nat} {a : Kd} (f : Fin n → Den a) {i j : Nat} (hj : j < n) (x : Den a) : aget (aset f i x) j = if j = i then x else aget f j := by
  unfold aget aset
  simp [hj]

/-- The last call of each actor, among the first n. -/
def LastOf (cs : List Cl) (f : Fin 4 → Int) (n : Nat) : Prop := ∀ w : Nat, w < 4 →
  (aget (n := 4) (a := .int .i64) f w = -1 ∧ ∀ (j : Nat) a, j < n → cs[j]? = some a → cWho a ≠ (w : Int)) ∨
  ∃ (k : Nat) (b : Cl), aget (n := 4) (a := .int .i64) f w = (k : Int) ∧ k < n ∧ cs[k]? = some b ∧ cWho b = (w : Int) ∧ ∀ (j : Nat) a, j < n → cs[j]? = some a → cWho a = (w : Int) → j ≤ k

theorem history_spec {calls : Sl} {h : Heap} {cs : List Cl} (ha : Arr h kapiCall calls cs) (hn : calls.len ≤ 2097152) {c1 : Cl → Heap → (Bool → Heap → Prop) → Prop} (i1 : ∀ {c : Cl} {h Q}, (∀ b : Bool, (b = true ↔ Sound c) → Q b h) → c1 c h Q)
    {Q : Bool → Heap → Prop} (hQ : ∀ b : Bool, (b = true ↔ HistN cs cs.length) → Q b h) : hist_history.M c1 calls h Q := by
  have hl : calls.len = cs.length := ha.1.symm
  refine Loop.up 4 (fun s => s.1) (fun i s h' => h' = h ∧ ∀ w : Nat, w < i → aget (n := 4) (a := .int .i64) s.2.1.1 w = -1) rfl ⟨rfl, fun w hw => absurd hw (Nat.not_lt_zero _)⟩ ?_
  rintro i ⟨j, ⟨f, u1⟩, u2⟩ h' go hi hc ⟨rfl, hF⟩ hgo
  dsimp only at hc hF; subst hc
  refine ⟨fun c => ?_, fun c => ?_⟩
  · have c : (i : Int) < 4 := of_decide_eq_true c
    refine ⟨⟨Int.natCast_nonneg i, c⟩, hgo (by omega) _ _ (by show w64 ((i : Int) + 1) = _; rw [w64_of] <;> omega) ⟨rfl, fun w hw => ?_⟩⟩
    dsimp only
    rw [aget_aset _ (by omega)]
    by_cases e : w = i
    · rw [if_pos (by omega)]
    · rw [if_neg (by simpa using e)]
      exact hF w (by omega)
  have c : ¬ (i : Int) < 4 := of_decide_eq_false c
  have hL0 : LastOf cs f 0 := fun w hw => .inl ⟨hF w (by omega), fun j a hj => absurd hj (Nat.not_lt_zero _)⟩
  clear hgo c hi hF
  refine Loop.up calls.len (fun s => s.1) (fun i s h'' => h'' = h' ∧ HistN cs i ∧ LastOf cs s.2.1.1 i) rfl ⟨rfl, fun i b hi => absurd hi (Nat.not_lt_zero _), hL0⟩ ?_
  clear hL0
  rintro i ⟨j, ⟨f, u3⟩, u4⟩ h'' go hi hc ⟨rfl, hH, hL⟩ hgo
  dsimp only at hc hL; subst hc
  refine ⟨fun c => ?_, fun c => ?_⟩
  · have c : (i : Int) < (calls.len : Int) := of_decide_eq_true c
    have c' : i < calls.len := by omega
    have hlt : i < cs.length := by omega
    refine ⟨⟨Int.natCast_nonneg i, c⟩, ha.at (Int.natCast_nonneg i) c rfl ?_⟩
    intro x hx
    rw [Int.toNat_natCast] at hx
    refine i1 fun b hb => ⟨fun e => ?_, fun e => ?_⟩
    · refine hQ false ⟨fun e => (by cases e), fun q => ?_⟩
      have := hb.2 (q i x hlt hx).1
      rw [this] at e; cases e
    have hs : Sound x := hb.1 (by cases b <;> first | rfl | cases e)
    obtain ⟨s1, s2, s3, s4, s5⟩ := sound_facts hs
    obtain ⟨w, hw⟩ : ∃ w : Nat, cWho x = (w : Int) := ⟨(cWho x).toNat, by omega⟩
    have hx1 : (x.1 : Int) = (w : Int) := hw
    have hw4 : w < 4 := by omega
    have done : (∀ (q : Nat) a, q < i → cs[q]? = some a → ¬ Bad2 a x) → hist_history.j2 go ((i : Int), ((f, u3), u4)) x () h'' := by
      intro hp
      refine ⟨⟨by show (0 : Int) ≤ cWho x; omega, by show cWho x < (4 : Int); omega⟩, ?_⟩
      refine hgo c' _ _ (by show w64 ((i : Int) + 1) = _; rw [w64_of] <;> omega) ⟨rfl, hH.succ hx hs hp, ?_⟩
      intro v hv
      dsimp only
      rw [aget_aset _ hv]
      have e1 : (x.1 : Int).toNat = w := by rw [hx1]; rfl
      rw [e1]
      by_cases ev : v = w
      · subst ev
        rw [if_pos rfl]
        exact .inr ⟨i, x, rfl, by omega, hx, hw, fun j a hj _ _ => by omega⟩
      · rw [if_neg ev]
        rcases hL v hv with ⟨p1, p2⟩ | ⟨k, b', p1, p2, p3, p4, p5⟩
        · refine .inl ⟨p1, fun j a hj hja => ?_⟩
          by_cases ej : j = i
          · subst ej; rw [hx] at hja; cases hja; omega
          · exact p2 j a (by omega) hja
        · refine .inr ⟨k, b', p1, by omega, p3, p4, fun j a hj hja hwa => ?_⟩
          by_cases ej : j = i
          · subst ej; rw [hx] at hja; cases hja; omega
          · exact p5 j a (by omega) hja hwa
    have j3 : ∀ b : Bool, (b = true → ¬ HistN cs cs.length) → (b = false → ∀ (q : Nat) a, q < i → cs[q]? = some a → ¬ Bad2 a x) → hist_history.j3 Q go ((i : Int), ((f, u3), u4)) x (b, ()) h'' := by
      intro b g1 g2
      exact ⟨fun e => hQ false ⟨fun q => (by cases q), fun q => absurd q (g1 e)⟩, fun e => done (g2 e)⟩
    have e1 : (x.1 : Int).toNat = w := by rw [hx1]; rfl
    refine ⟨⟨by show (0 : Int) ≤ cWho x; omega, by show cWho x < (4 : Int); omega⟩, ?_⟩
    dsimp only
    rw [e1]
    rcases hL w hw4 with ⟨p1, p2⟩ | ⟨k, b', p1, p2, p3, p4, p5⟩
    · rw [p1]
      refine ⟨fun e => (by cases e), fun _ => j3 false (fun q => (by cases q)) fun _ q a hq hqa hbad => p2 q a hq hqa ?_⟩
      rw [hbad.1]; exact hw
    · rw [p1]
      obtain ⟨a, ea, _, _, en, cd⟩ := cl_cells ha p3
      have bnd : (0 : Int) ≤ (k : Int) ∧ (k : Int) < (calls.len : Int) := ⟨by omega, by omega⟩
      have hk := hH k b' p2 p3
      obtain ⟨t1, t2, t3, t4, t5⟩ := sound_facts hk.1
      have bad : Bad2 b' x → ¬ HistN cs cs.length := fun hb2 q => (q i x hlt hx).2 k b' p2 p3 hb2
      have good : ¬ Bad2 b' x → ∀ (q : Nat) a, q < i → cs[q]? = some a → ¬ Bad2 a x := by
        intro nb q a hq hqa hbad
        have hwa : cWho a = (w : Int) := by rw [hbad.1]; exact hw
        have hqk := p5 q a hq hqa hwa
        by_cases eq : q = k
        · subst eq
          rw [p3] at hqa; cases hqa
          exact nb hbad
        · have h1 : ¬ Bad2 a b' := hk.2 q a (by omega) hqa
          unfold Bad2 at nb h1 hbad
          have e2 : cWho a = cWho b' := by rw [hwa, p4]
          have e3 : cWho b' = cWho x := by rw [p4, hw]
          omega
      refine ⟨fun _ => ⟨bnd, ?_⟩, fun e => absurd (of_decide_eq_false e) (fun q => q (Int.natCast_nonneg k))⟩
      rw [ea]
      refine ⟨cCode b', cd, fun e => ?_, fun e => ?_⟩
      · have e : cCode b' = 0 := of_decide_eq_true e
        exact j3 true (fun _ => bad ⟨by rw [p4, hw], .inl (t1.2 e)⟩) (fun q => by cases q)
      · have e : ¬ cCode b' = 0 := of_decide_eq_false e
        refine ⟨bnd, cEn b', en, ?_⟩
        refine j3 _ (fun q => bad ⟨by rw [p4, hw], .inr (of_decide_eq_true q)⟩) (fun q => good fun hb2 => ?_)
        have q : ¬ cBg x ≤ cEn b' := of_decide_eq_false q
        exact hb2.2.elim (fun r => e (t1.1 r)) q
  · have c : ¬ (i : Int) < (calls.len : Int) := of_decide_eq_false c
    have : i = cs.length := by omega
    subst this
    exact hQ true ⟨fun _ => hH, fun _ => rfl⟩

end Go.Mx
