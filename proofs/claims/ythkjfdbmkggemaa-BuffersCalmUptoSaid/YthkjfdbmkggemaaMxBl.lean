/-
  cells.Play: acts on plain cells.
-/
import Derived.Test.YthkjfdbmkggemaaMxBi
set_option linter.unusedVariables false
set_option linter.unusedSimpArgs false
set_option linter.unusedSectionVars false
namespace Go.Mx

/-! ### as plain data -/
def InC (cs : List Int) (a : Int) : Prop := 0 ≤ a ∧ a < (cs.length : Int)
instance (cs : List Int) (a : Int) : Decidable (InC cs a) := by unfold InC; infer_instance
def atC (cs : List Int) (a : Int) : Int := cs[a.toNat]?.getD 0
/-- An act on plain cells: the cells behind it, its effect. -/
def cact (sz : Int) (cs : List Int) (t : AMv) : List Int × Eff :=
  if t.2.1 = 0 then if InC cs t.2.2.1 then (cs, ef (atC cs t.2.2.1) 0) else (cs, ef 0 20)
  else if t.2.1 = 1 then if InC cs t.2.2.1 then (cs.set t.2.2.1.toNat t.2.2.2.1, ef 0 0) else (cs, ef 0 20)
  else if t.2.1 = 2 then if InC cs t.2.2.1 then (if atC cs t.2.2.1 = t.2.2.2.1 then cs.set t.2.2.1.toNat t.2.2.2.2.1 else cs, (0, (decide (atC cs t.2.2.1 = t.2.2.2.1), (0, ())))) else (cs, (0, (false, (20, ()))))
  else if t.2.1 = 3 then if InC cs t.2.2.1 then (cs.set t.2.2.1.toNat (w64 (atC cs t.2.2.1 + t.2.2.2.1)), ef (w64 (atC cs t.2.2.1 + t.2.2.2.1)) 0) else (cs, ef 0 20)
  else if t.2.1 = 4 then if t.2.2.2.1 < 1 then (cs, ef 0 21) else if sz - (cs.length : Int) < t.2.2.2.1 then (cs, ef 0 22) else (cs ++ List.replicate t.2.2.2.1.toNat 0, ef (cs.length : Int) 0)
  else (cs, ef 0 23)
/-- What an act leaves in a log, if it answered f. -/
def toldP (who : Int) (t : AMv) (f : Eff) : Acc :=
  (who, (t.2.1, (if t.2.1 = 4 then f.1 else t.2.2.1, (if t.2.1 = 0 then f.1 else t.2.2.2.1, (if t.2.1 = 2 then t.2.2.2.2.1 else if t.2.1 = 3 then f.1 else 0, (if t.2.1 = 2 then f.2.1 else true, ()))))))
structure CA where
  cs : List Int
  lg : List Acc
  es : List Eff
def CA.step (sz : Int) (s : CA) (t : AMv) : CA := ⟨(cact sz s.cs t).1, if (cact sz s.cs t).2.2.2.1 = 0 then s.lg ++ [toldP t.1 t (cact sz s.cs t).2] else s.lg, s.es ++ [(cact sz s.cs t).2]⟩
def CA.run (sz : Int) (s : CA) (ts : List AMv) : CA := ts.foldl (CA.step sz) s
theorem cact_len {sz : Int} {cs : List Int} (h : (cs.length : Int) ≤ sz) (t : AMv) : ((cact sz cs t).1.length : Int) ≤ sz ∧ cs.length ≤ (cact sz cs t).1.length := by
  unfold cact
  repeat' split
  all_goals first
    | exact ⟨h, Nat.le_refl _⟩
    | (rw [List.length_set]; exact ⟨h, Nat.le_refl _⟩)
    | (rw [List.length_append, List.length_replicate]; omega)

/-! ### the arena's act -/
def LoadE (c : Option Addr → Int → Heap → (Den K2 → Heap → Prop) → Prop) : Prop := ∀ {h0 h : Heap} {b : Nat} {cl l : Sl} {sz : Int} {cs : List Int} {lg : List Acc} {who : Int} {wt : Bool} {addr : Int} {Q : Den K2 → Heap → Prop}, Ar h0 h b cl l sz cs lg who wt → lg.length ≤ 1000000000 → (¬ (0 ≤ addr ∧ addr < (cs.length : Int)) → Q (0, (20, ())) h) →
  (∀ v l' h', cs[addr.toNat]? = some v → 0 ≤ addr ∧ addr < (cs.length : Int) → Ar h0 h' b cl l' sz cs (wl wt lg (who, (0, (addr, (v, (0, (true, ()))))))) who wt → Step (fpA b cl l) (fpA b cl l') h h' → Q (v, (0, ())) h') → c (some (ptr b)) addr h Q
def StoreE (c : Option Addr → Int → Int → Heap → (Int → Heap → Prop) → Prop) : Prop := ∀ {h0 h : Heap} {b : Nat} {cl l : Sl} {sz : Int} {cs : List Int} {lg : List Acc} {who : Int} {wt : Bool} {addr v : Int} {Q : Int → Heap → Prop}, Ar h0 h b cl l sz cs lg who wt → lg.length ≤ 1000000000 → (¬ (0 ≤ addr ∧ addr < (cs.length : Int)) → Q 20 h) →
  (∀ l' h', 0 ≤ addr ∧ addr < (cs.length : Int) → Ar h0 h' b cl l' sz (cs.set addr.toNat v) (wl wt lg (who, (1, (addr, (v, (0, (true, ()))))))) who wt → Step (fpA b cl l) (fpA b cl l') h h' → Q 0 h') → c (some (ptr b)) addr v h Q
def CasE (c : Option Addr → Int → Int → Int → Heap → ((Bool × (Int × Unit)) → Heap → Prop) → Prop) : Prop := ∀ {h0 h : Heap} {b : Nat} {cl l : Sl} {sz : Int} {cs : List Int} {lg : List Acc} {who : Int} {wt : Bool} {addr x y : Int} {Q : (Bool × (Int × Unit)) → Heap → Prop}, Ar h0 h b cl l sz cs lg who wt → lg.length ≤ 1000000000 → (¬ (0 ≤ addr ∧ addr < (cs.length : Int)) → Q (false, (20, ())) h) →
  (∀ v l' h', cs[addr.toNat]? = some v → 0 ≤ addr ∧ addr < (cs.length : Int) → Ar h0 h' b cl l' sz (if v = x then cs.set addr.toNat y else cs) (wl wt lg (who, (2, (addr, (x, (y, (decide (v = x), ()))))))) who wt → Step (fpA b cl l) (fpA b cl l') h h' → Q (decide (v = x), (0, ())) h') → c (some (ptr b)) addr x y h Q
def AddE (c : Option Addr → Int → Int → Heap → (Den K2 → Heap → Prop) → Prop) : Prop := ∀ {h0 h : Heap} {b : Nat} {cl l : Sl} {sz : Int} {cs : List Int} {lg : List Acc} {who : Int} {wt : Bool} {addr d : Int} {Q : Den K2 → Heap → Prop}, Ar h0 h b cl l sz cs lg who wt → lg.length ≤ 1000000000 → (¬ (0 ≤ addr ∧ addr < (cs.length : Int)) → Q (0, (20, ())) h) →
  (∀ v l' h', cs[addr.toNat]? = some v → 0 ≤ addr ∧ addr < (cs.length : Int) → Ar h0 h' b cl l' sz (cs.set addr.toNat (w64 (v + d))) (wl wt lg (who, (3, (addr, (d, (w64 (v + d), (true, ()))))))) who wt → Step (fpA b cl l) (fpA b cl l') h h' → Q (w64 (v + d), (0, ())) h') → c (some (ptr b)) addr d h Q
def ResE (c : Option Addr → Int → Heap → (Den K2 → Heap → Prop) → Prop) : Prop := ∀ {h0 h : Heap} {b : Nat} {cl l : Sl} {sz : Int} {cs : List Int} {lg : List Acc} {who : Int} {wt : Bool} {n : Int} {Q : Den K2 → Heap → Prop}, Ar h0 h b cl l sz cs lg who wt → lg.length ≤ 1000000000 → (cs.length : Int) ≤ sz → sz ≤ 1048576 → (n < 1 → Q (0, (21, ())) h) → (1 ≤ n → sz - (cs.length : Int) < n → Q (0, (22, ())) h) →
  (∀ c' l' h', 1 ≤ n → n ≤ sz - (cs.length : Int) → Ar h0 h' b c' l' sz (cs ++ List.replicate n.toNat 0) (wl wt lg (who, (4, ((cs.length : Int), (n, (0, (true, ()))))))) who wt → Step (fpA b cl l) (fpA b c' l') h h' → Q ((cs.length : Int), (0, ())) h') → c (some (ptr b)) n h Q
def AActC (c : Option Addr → AMv → Heap → (Eff → Heap → Prop) → Prop) : Prop := ∀ {h0 h : Heap} {b : Nat} {cl l : Sl} {sz : Int} {cs : List Int} {lg : List Acc} {who : Int} {t : AMv} {Q : Eff → Heap → Prop}, Ar h0 h b cl l sz cs lg who true → lg.length ≤ 1000000000 → (cs.length : Int) ≤ sz → sz ≤ 1048576 →
  (∀ c' l' h', Ar h0 h' b c' l' sz (cact sz cs t).1 (if (cact sz cs t).2.2.2.1 = 0 then lg ++ [toldP t.1 t (cact sz cs t).2] else lg) t.1 true → Step (fpA b cl l) (fpA b c' l') h h' → Q (cact sz cs t).2 h') → c (some (ptr b)) t h Q
theorem atC_of {cs : List Int} {a v : Int} (h : cs[a.toNat]? = some v) : atC cs a = v := by unfold atC; rw [h]; rfl
theorem aact_spec {cw c0 c1 c2 c3 c4} (iW : WhoC cw) (i0 : LoadE c0) (i1 : StoreE c1) (i2 : CasE c2) (i3 : AddE c3) (i4 : ResE c4) : AActC (cells_Arena_act.M cw c0 c1 c2 c3 c4) := by
  intro h0 h b cl l sz cs lg who t Q o hl hf hz hQ
  obtain ⟨tw, tk, ta, tx, ty, tu⟩ := t
  change Int at tw tk ta tx ty
  refine iW o fun h1 o1 s1 => ?_
  have o1 : Ar h0 h1 b cl l sz cs lg tw true := o1
  have bad : ∀ f : Eff, cact sz cs (tw, (tk, (ta, (tx, (ty, tu))))) = (cs, f) → f.2.2.1 ≠ 0 → Q f h1 := fun f e q => by
    rw [e] at hQ
    dsimp only at hQ
    rw [if_neg q] at hQ
    exact hQ cl l h1 o1 s1
  refine ⟨fun e => ?_, fun e => ?_⟩
  · have e : tk = 0 := of_decide_eq_true e
    subst e
    refine i0 o1 hl (fun q => bad (ef 0 20) (by unfold cact; dsimp only; rw [if_pos rfl]; exact if_neg q) (by decide)) fun v l' h2 hv hin o2 s2 => ?_
    have : cact sz cs (tw, (0, (ta, (tx, (ty, tu))))) = (cs, ef v 0) := by unfold cact; dsimp only; rw [if_pos rfl, ← atC_of hv]; exact if_pos hin
    rw [this] at hQ
    exact hQ _ _ h2 o2 (s1.trans s2)
  have n0 : ¬ tk = 0 := of_decide_eq_false e
  refine ⟨fun e => ?_, fun e => ?_⟩
  · have e : tk = 1 := of_decide_eq_true e
    subst e
    refine i1 o1 hl (fun q => bad (ef 0 20) (by unfold cact; dsimp only; rw [if_neg (by decide), if_pos rfl]; exact if_neg q) (by decide)) fun l' h2 hin o2 s2 => ?_
    have : cact sz cs (tw, (1, (ta, (tx, (ty, tu))))) = (cs.set ta.toNat tx, ef 0 0) := by unfold cact; dsimp only; rw [if_neg (by decide), if_pos rfl]; exact if_pos hin
    rw [this] at hQ
    exact hQ _ _ h2 o2 (s1.trans s2)
  have n1 : ¬ tk = 1 := of_decide_eq_false e
  refine ⟨fun e => ?_, fun e => ?_⟩
  · have e : tk = 2 := of_decide_eq_true e
    subst e
    refine i2 o1 hl (fun q => bad (0, (false, (20, ()))) (by unfold cact; dsimp only; rw [if_neg (by decide), if_neg (by decide), if_pos rfl]; exact if_neg q) (by show (20 : Int) ≠ 0; decide)) fun v l' h2 hv hin o2 s2 => ?_
    have : cact sz cs (tw, (2, (ta, (tx, (ty, tu))))) = (if v = tx then cs.set ta.toNat ty else cs, (0, (decide (v = tx), (0, ())))) := by
      unfold cact; dsimp only; rw [if_neg (by decide), if_neg (by decide), if_pos rfl, atC_of hv]; exact if_pos hin
    rw [this] at hQ
    exact hQ _ _ h2 o2 (s1.trans s2)
  have n2 : ¬ tk = 2 := of_decide_eq_false e
  refine ⟨fun e => ?_, fun e => ?_⟩
  · have e : tk = 3 := of_decide_eq_true e
    subst e
    refine i3 o1 hl (fun q => bad (ef 0 20) (by unfold cact; dsimp only; rw [if_neg (by decide), if_neg (by decide), if_neg (by decide), if_pos rfl]; exact if_neg q) (by decide)) fun v l' h2 hv hin o2 s2 => ?_
    have : cact sz cs (tw, (3, (ta, (tx, (ty, tu))))) = (cs.set ta.toNat (w64 (v + tx)), ef (w64 (v + tx)) 0) := by
      unfold cact; dsimp only; rw [if_neg (by decide), if_neg (by decide), if_neg (by decide), if_pos rfl, atC_of hv]; exact if_pos hin
    rw [this] at hQ
    exact hQ _ _ h2 o2 (s1.trans s2)
  have n3 : ¬ tk = 3 := of_decide_eq_false e
  refine ⟨fun e => ?_, fun e => ?_⟩
  · have e : tk = 4 := of_decide_eq_true e
    subst e
    have un : cact sz cs (tw, (4, (ta, (tx, (ty, tu))))) = if tx < 1 then (cs, ef 0 21) else if sz - (cs.length : Int) < tx then (cs, ef 0 22) else (cs ++ List.replicate tx.toNat 0, ef (cs.length : Int) 0) := by
      unfold cact; dsimp only; rw [if_neg (by decide), if_neg (by decide), if_neg (by decide), if_neg (by decide), if_pos rfl]
    refine i4 o1 hl hf hz (fun q => bad (ef 0 21) (by rw [un, if_pos q]) (by decide)) (fun (p : 1 ≤ tx) (q : sz - (cs.length : Int) < tx) => bad (ef 0 22) (by rw [un, if_neg (by omega), if_pos q]) (by decide)) fun c' l' h2 (p : 1 ≤ tx) (q : tx ≤ sz - (cs.length : Int)) o2 s2 => ?_
    rw [un, if_neg (by omega), if_neg (by omega)] at hQ
    exact hQ _ _ h2 o2 (s1.trans s2)
  have n4 : ¬ tk = 4 := of_decide_eq_false e
  exact bad (ef 0 23) (by unfold cact; dsimp only; rw [if_neg n0, if_neg n1, if_neg n2, if_neg n3, if_neg n4]) (by decide)

/-! ### Play -/
abbrev KCr : Kd := .pair .sl (.pair .sl (.pair .sl .nil))
def CPlayC (c : Int → Sl → Heap → ((Den KCr × (Int × Unit)) → Heap → Prop) → Prop) : Prop := ∀ {size : Int} {acts : Sl} {h : Heap} {ts : List AMv} {Q : (Den KCr × (Int × Unit)) → Heap → Prop}, Arr h KMv acts ts → 0 ≤ size → size ≤ 1048576 → ts.length ≤ 4096 →
  (∀ r h', New h h' KEf r.1 (CA.run size ⟨[], [], []⟩ ts).es → New h h' ki r.2.1 (CA.run size ⟨[], [], []⟩ ts).cs → New h h' KAcc r.2.2.1 (CA.run size ⟨[], [], []⟩ ts).lg → Q (r, (0, ())) h') → c size acts h Q
theorem crun_succ {sz : Int} {s : CA} {ts : List AMv} {j : Nat} (h : j < ts.length) : CA.run sz s (ts.take (j + 1)) = CA.step sz (CA.run sz s (ts.take j)) ts[j] := by
  unfold CA.run
  rw [take_succ' ts h, List.foldl_append]; rfl
theorem crun_ok (sz : Int) : ∀ (ts : List AMv) (s : CA), (s.cs.length : Int) ≤ sz → ((CA.run sz s ts).cs.length : Int) ≤ sz ∧ (CA.run sz s ts).lg.length ≤ s.lg.length + ts.length ∧ (CA.run sz s ts).es.length = s.es.length + ts.length
  | [], s, h => ⟨h, Nat.le_refl _, rfl⟩
  | t :: ts, s, h => by
    obtain ⟨a, b, c⟩ := crun_ok sz ts (CA.step sz s t) (cact_len h t).1
    refine ⟨a, Nat.le_trans b ?_, c.trans ?_⟩
    · have : (CA.step sz s t).lg.length ≤ s.lg.length + 1 := by
        unfold CA.step
        dsimp only
        split
        · rw [List.length_append]; exact Nat.le_refl _
        · omega
      rw [List.length_cons]; omega
    · show (s.es ++ [_]).length + ts.length = _
      rw [List.length_append, List.length_cons]; simp; omega
theorem cplay_spec {cn cw ca cc cl} (iN : ANewC cn) (iW : WatchC cw) (iA : AActC ca) (iC : ACellsC ki cc fun cs _ => cs) (iL : ACellsC KAcc cl fun _ lg => lg) : CPlayC (cells_Play.M cn cw ca cc cl) := by
  intro size acts h ts Q ha h0 hz hn hQ
  have hal := ha.1
  refine iN (fun q => absurd ⟨h0, hz⟩ q) fun _ b h1 o1 => ⟨fun e => (by cases e), fun _ => ⟨fun e => absurd (of_decide_eq_true e) (by omega), fun _ => ?_⟩⟩
  refine iW o1 fun h2 o2 s2 => ?_
  have o2 : Ar h h2 b ⟨none, 0, 0⟩ ⟨none, 0, 0⟩ size [] [] 0 true := o2
  refine Loop.up ts.length (fun s => s.1) (fun j s g => ∃ c l who, Ar h g b c l size (CA.run size ⟨[], [], []⟩ (ts.take j)).cs (CA.run size ⟨[], [], []⟩ (ts.take j)).lg who true ∧ New h g KEf s.2.1.1 (CA.run size ⟨[], [], []⟩ (ts.take j)).es ∧ s.2.1.2 = (Sl.none, (Sl.none, ())) ∧ ∀ x, fpA b c l x → ¬ blkOf s.2.1.1 x) rfl
    ⟨⟨none, 0, 0⟩, ⟨none, 0, 0⟩, 0, o2, New.none o2.le KEf, rfl, fun x _ q => no_blk q⟩ ?_
  rintro j ⟨j', ⟨es, rest⟩, u⟩ g go hj hc ⟨c, l, who, o, ne, er, d⟩ hgo
  dsimp only at hc er ne d; subst hc; subst er
  obtain ⟨k1, k2, k3⟩ := crun_ok size (ts.take j) ⟨[], [], []⟩ h0
  have ktl := List.length_take_le j ts
  dsimp only [List.length_nil] at k2 k3
  have lg := o.le
  have el := ne.len
  refine ⟨fun e => ?_, fun e => ?_⟩
  · have e : (j : Int) < (acts.len : Int) := of_decide_eq_true e
    have hjt : j < ts.length := by omega
    have hrun := crun_succ (sz := size) (s := ⟨[], [], []⟩) hjt
    generalize CA.run size ⟨[], [], []⟩ (ts.take j) = st at o ne k1 k2 k3 hrun el
    have hji : 0 ≤ (j : Int) ∧ (j : Int) < (acts.len : Int) := ⟨by omega, e⟩
    refine ⟨hji, (ha.le lg).at (by omega) e rfl fun t ht => ?_⟩
    rw [Int.toNat_natCast] at ht
    obtain rfl : ts[j] = t := by simpa [hjt] using ht
    refine iA (t := ts[j]) o (by omega) k1 hz fun c' l' h3 o3 s3 => ?_
    have n3 := ne.ext s3.1 (fun x p q => d x q p) (fun x q => o.fresh q)
    have d3 : ∀ x, blkOf es x → ¬ fpA b c' l' x := s3.off (fun x p q => d x q p) (fun x p => ne.own.live x p)
    refine n3.app3 rfl rfl (by omega) fun es' h4 n4 x4 b4 => ?_
    refine hgo hjt _ _ (by show w64 ((j : Int) + 1) = _; rw [w64_of] <;> omega) ⟨c', l', _, by rw [hrun]; exact o3.ext x4 (fun x p q => d3 x q p) n3.new, by rw [hrun]; exact n4, rfl, fun x p q => ?_⟩
    rcases b4 x q with q | q
    · exact d3 x q p
    · exact o3.live p q
  · have e : ¬ (j : Int) < (acts.len : Int) := of_decide_eq_false e
    rw [List.take_of_length_le (by omega)] at o ne k1 k2 k3
    generalize CA.run size ⟨[], [], []⟩ ts = st at o ne k1 k2 k3 hQ
    refine iC o (by omega) (by omega) fun cs h3 n3 => iL (o.more n3.le) (by omega) (by omega) fun lgs h4 n4 => ?_
    exact hQ _ h4 ((ne.more n3.le).more n4.le) ((n3.base lg).more n4.le) (n4.base (lg.trans n3.le))

end Go.Mx
