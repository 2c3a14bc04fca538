/-
  cells.Play: acts on plain cells.
-/
import Derived.Test.YtppehoailhjdfabMxBi
set_option linter.unusedVariables false
set_option linter.unusedSimpArgs false
set_option linter.unusedSectionVars false
namespace Go.Mx

/-! ### as plain data -/
def InC (cs : List Int) (a : Int) : Prop := 0 ≤ a ∧ a < (cs.length : Int)
instance (cs : List Int) (a : Int) : Decidable (InC cs a) := by unfold InC; infer_instance
def atC (cs : List Int) (a : Int) : Int := cs[a.toNat]?.getD 0
/-- An act on plain cells: the cells behind it, its effect. -/
def cact (sz : Int) (cs : List Int) (t : AMv) : List Int × Eff :=
  if t.2.1 = 0 then if InC cs t.2.2.1 then (cs, ef (atC cs t.2.2.1) 0) else (cs, ef 0 20)
  else if t.2.1 = 1 then if InC cs t.2.2.1 then (cs.set t.2.2.1.toNat t.2.2.2.1, ef 0 0) else (cs, ef 0 20)
  else if t.2.1 = 2 then if InC cs t.2.2.1 then (if atC cs t.2.2.1 = t.2.2.2.1 then cs.set t.2.2.1.toNat t.2.2.2.2.1 else cs, (0, (decide (atC cs t.2.2.1 = t.2.2.2.1), (0, ())))) else (cs, (0, (false, (20, ()))))
  else if t.2.1 = 3 then if InC cs t.2.2.1 then (cs.set t.2.2.1.toNat (w64 (atC cs t.2.2.1 + t.2.2.2.1)), ef (w64 (atC cs t.2.2.1 + t.2.2.2.1)) 0) else (cs, ef 0 20)
  else if t.2.1 = 4 then if t.2.2.2.1 < 1 then (cs, ef 0 21) else if sz - (cs.length : Int) < t.2.2.2.1 then (cs, ef 0 22) else (cs ++ List.replicate t.2.2.2.1.toNat 0, ef (cs.length : Int) 0)
  else (cs, ef 0 23)
/-- What an act leaves in a log, if it answered f. -/
def toldP (who : Int) (t : AMv) (f : Eff) : Acc :=
  (who, (t.2.1, (if t.2.1 = 4 then f.1 else t.2.2.1, (if t.2.1 = 0 then f.1 else t.2.2.2.1, (if t.2.1 = 2 then t.2.2.2.2.1 else if t.2.1 = 3 then f.1 else 0, (if t.2.1 = 2 then f.2.1 else true, ()))))))
structure CA where
  cs : List Int
  lg : List Acc
  es : List Eff
def CA.step (sz : Int) (s : CA) (t : AMv) : CA := ⟨(cact sz s.cs t).1, if (cact sz s.cs t).2.2.2.1 = 0 then s.lg ++ [toldP t.1 t (cact sz s.cs t).2] else s.lg, s.es ++ [(cact sz s.cs t).2]⟩
def CA.run (sz : Int) (s : CA) (ts : List AMv) : CA := ts.foldl (CA.step sz) s
theorem cact_len {sz : Int} {cs : List Int} (h : (cs.length : Int) ≤ sz) (t : AMv) : ((cact sz cs t).1.length : Int) ≤ sz ∧ cs.length ≤ (cact sz cs t).1.length := by
  unfold cact
  repeat' split
  all_goals first
    | exact ⟨h, Nat.le_refl _⟩
    | (rw [List.length_set]; exact ⟨h, Nat.le_refl _⟩)
    | (rw [List.length_append, List.length_replicate]; omega)

/-! ### the arena's act -/
def LoadE (c : Option Addr → Int → Heap → (Den K2 → Heap → Prop) → Prop) : Prop := ∀ {h0 h : Heap} {b : Nat} {cl l : Sl} {sz : Int} {cs : List Int} {lg : List Acc} {who : Int} {wt : Bool} {addr : Int} {Q : Den K2 → Heap → Prop}, Ar h0 h b cl l sz cs lg who wt → lg.length ≤ 1000000000 → (¬ (0 ≤ addr ∧ addr < (cs.length : Int)) → Q (0, (20, ())) h) →
  (∀ v l' h', cs[addr.toNat]? = some v → 0 ≤ addr ∧ addr < (cs.length : Int) → Ar h0 h' b cl l' sz cs (wl wt lg (who, (0, (addr, (v, (0, (true, ()))))))) who wt → Step (fpA b cl l) (fpA b cl l') h h' → Q (v, (0, ())) h') → c (some (ptr b)) addr h Q
def StoreE (c : Option Addr → Int → Int → Heap → (Int → Heap → Prop) → Prop) : Prop := ∀ {h0 h : Heap} {b : Nat} {cl l : Sl} {sz : Int} {cs : List Int} {lg : List Acc} {who : Int} {wt : Bool} {addr v : Int} {Q : Int → Heap → Prop}, Ar h0 h b cl l sz cs lg who wt → lg.length ≤ 1000000000 → (¬ (0 ≤ addr ∧ addr < (cs.length : Int)) → Q 20 h) →
  (∀ l' h', 0 ≤ addr ∧ addr < (cs.length : Int) → Ar h0 h' b cl l' sz (cs.set addr.toNat v) (wl wt lg (who, (1, (addr, (v, (0, (true, ()))))))) who wt → Step (fpA b cl l) (fpA b cl l') h h' → Q 0 h') → c (some (ptr b)) addr v h Q
def CasE (c : Option Addr → Int → Int → Int → Heap → ((Bool × (Int × Unit)) → Heap → Prop) → Prop) : Prop := ∀ {h0 h : Heap} {b : Nat} {cl l : Sl} {sz : Int} {cs : List Int} {lg : List Acc} {who : Int} {wt : Bool} {addr x y : Int} {Q : (Bool × (Int × Unit)) → Heap → Prop}, Ar h0 h b cl l sz cs lg who wt → lg.length ≤ 1000000000 → (¬ (0 ≤ addr ∧ addr < (cs.length : Int)) → Q (false, (20, ())) h) →
  (∀ v l' h', cs[addr.toNat]? = some v → 0 ≤ addr ∧ addr < (cs.length : Int) → Ar h0 h' b cl l' sz (if v = x then cs.set addr.toNat y else cs) (wl wt lg (who, (2, (addr, (x, (y, (decide (v = x), ()))))))) who wt → Step (fpA b cl l) (fpA b cl l') h h' → Q (decide (v = x), (0, ())) h') → c (some (ptr b)) addr x y h Q
def AddE (c : Option Addr → Int → Int → Heap → (Den K2 → Heap → Prop) → Prop) : Prop := ∀ {h0 h : Heap} {b : Nat} {cl l : Sl} {sz : Int} {cs : List Int} {lg : List Acc} {who : Int} {wt : Bool} {addr d : Int} {Q : Den K2 → Heap → Prop}, Ar h0 h b cl l sz cs lg who wt → lg.length ≤ 1000000000 → (¬ (0 ≤ addr ∧ addr < (cs.length : Int)) → Q (0, (20, ())) h) →
  (∀ v l' h', cs[addr.toNat]? = some v → 0 ≤ addr ∧ addr < (cs.length : Int) → Ar h0 h' b cl l' sz (cs.set addr.toNat (w64 (v + d))) (wl wt lg (who, (3, (addr, (d, (w64 (v + d), (true, ()))))))) who wt → Step (fpA b cl l) (fpA b cl l') h h' → Q (w64 (v + d), (0, ())) h') → c (some (ptr b)) addr d h Q
def ResE (c : Option Addr → Int → Heap → (Den K2 → Heap → Prop) → Prop) : Prop := ∀ {h0 h : Heap} {b : Nat} {cl l : Sl} {sz : Int} {cs : List Int} {lg : List Acc} {who : Int} {wt : Bool} {n : Int} {Q : Den K2 → Heap → Prop}, Ar h0 h b cl l sz cs lg who wt → lg.length ≤ 1000000000 → (cs.length : Int) ≤ sz → sz ≤ 1048576 → (n < 1 → Q (0, (21, ())) h) → (1 ≤ n → sz - (cs.length : Int) < n → Q (0, (22, ())) h) →
  (∀ c' l' h', 1 ≤ n → n ≤ sz - (cs.length : Int) → Ar h0 h' b c' l' sz (cs ++ List.replicate n.toNat 0) (wl wt lg (who, (4, ((cs.length : Int), (n, (0, (true, ()))))))) who wt → Step (fpA b cl l) (fpA b c' l') h h' → Q ((cs.length : Int), (0, ())) h') → c (some (ptr b)) n h Q
def AActC (c : Option Addr → AMv → Heap → (Eff → Heap → Prop) → Prop) : Prop := ∀ {h0 h : Heap} {b : Nat} {cl l : Sl} {sz : Int} {cs : List Int} {lg : List Acc} {who : Int} {t : AMv} {Q : Eff → Heap → Prop}, Ar h0 h b cl l sz cs lg who true → lg.length ≤ 1000000000 → (cs.length : Int) ≤ sz → sz ≤ 1048576 →
  (∀ c' l' h', Ar h0 h' b c' l' sz (cact sz cs t).1 (if (cact sz cs t).2.2.2.1 = 0 then lg ++ [toldP t.1 t (cact sz cs t).2] else lg) t.1 true → Step (fpA b cl l) (fpA b c' l') h h' → Q (cact sz cs t).2 h') → c (some (ptr b)) t h Q
theorem atC_of {cs : List Int} {a v : Int} (h : cs[a.toNat]? = some v) : atC cs a = v := by unfold atC; rw [h]; rfl

/-! ### Play -/
abbrev KCr : Kd := .pair .sl (.pair .sl (.pair .sl .nil))
def CPlayC (c : Int → Sl → Heap → ((Den KCr × (Int × Unit)) → Heap → Prop) → Prop) : Prop := ∀ {size : Int} {acts : Sl} {h : Heap} {ts : List AMv} {Q : (Den KCr × (Int × Unit)) → Heap → Prop}, Arr h KMv acts ts → 0 ≤ size → size ≤ 1048576 → ts.length ≤ 4096 →
  (∀ r h', New h h' KEf r.1 (CA.run size ⟨[], [], []⟩ ts).es → New h h' ki r.2.1 (CA.run size ⟨[], [], []⟩ ts).cs → New h h' KAcc r.2.2.1 (CA.run size ⟨[], [], []⟩ ts).lg → Q (r, (0, ())) h') → c size acts h Q
theorem crun_succ {sz : Int} {s : CA} {ts : List AMv} {j : Nat} (h : j < ts.length) : CA.run sz s (ts.take (j + 1)) = CA.step sz (CA.run sz s (ts.take j)) ts[j] := by
  unfold CA.run
  rw [take_succ' ts h, List.foldl_append]; rfl
theorem crun_ok (sz : Int) : ∀ (ts : List AMv) (s : CA), (s.cs.length : Int) ≤ sz → ((CA.run sz s ts).cs.length : Int) ≤ sz ∧ (CA.run sz s ts).lg.length ≤ s.lg.length + ts.length ∧ (CA.run sz s ts).es.length = s.es.length + ts.length
  | [], s, h => ⟨h, Nat.le_refl _, rfl⟩
  | t :: ts, s, h => by
    obtain ⟨a, b, c⟩ := crun_ok sz ts (CA.step sz s t) (cact_len h t).1
    refine ⟨a, Nat.le_trans b ?_, c.trans ?_⟩
    · have : (CA.step sz s t).lg.length ≤ s.lg.length + 1 := by
        unfold CA.step
        dsimp only
        split
        · rw [List.length_append]; exact Nat.le_refl _
        · omega
      rw [List.length_cons]; omega
    · show (s.es ++ [_]).length + ts.length = _
      rw [List.length_append, List.length_cons]; simp; omega

end Go.Mx
