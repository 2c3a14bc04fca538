/-
  The law ParkFlags.
-/
import Derived.Test.YtndhbkhhehleaaaMxWq
set_option linter.unusedVariables false
set_option linter.unusedSimpArgs false
set_option linter.unusedSectionVars false
namespace Go.Mx

theorem derefI {a : Addr} {f : Addr → Prop} (h : f a) : deref (some a) f := h
abbrev KBk : Kd := .pair (.arr 8 ki) (.pair (.arr 8 .bool) (.pair ki (.pair ki (.pair ki .nil))))
def flD (b : Bk) : Fin 8 → Int := fun j => b.fl j.val
def owD (b : Bk) : Fin 8 → Bool := fun j => b.ow j.val
def Bk.den (b : Bk) : Den KBk := (flD b, (owD b, (b.cnt, (b.clr, (b.dn, ())))))
def bkT (b : Bk) : List Value := [.int .i64 b.cnt, .int .i64 b.clr, .int .i64 b.dn]
abbrev flC (b : Bk) : List Value := Kd.cells (.arr 8 ki) (flD b)
abbrev owC (b : Bk) : List Value := Kd.cells (.arr 8 .bool) (owD b)
theorem bk_cells (b : Bk) : KBk.cells b.den = flC b ++ (owC b ++ bkT b) := rfl
theorem flC_len (b : Bk) : (flC b).length = 8 := Kd.cells_len (.arr 8 ki) (flD b)
theorem owC_len (b : Bk) : (owC b).length = 8 := Kd.cells_len (.arr 8 .bool) (owD b)
theorem bkFl (b : Bk) : KBk.cells b.den = [] ++ flC b ++ (owC b ++ bkT b) := rfl
theorem bkOw (b : Bk) : KBk.cells b.den = flC b ++ owC b ++ bkT b := by rw [bk_cells, List.append_assoc]
theorem bkCnt (b : Bk) : KBk.cells b.den = (flC b ++ owC b) ++ ki.cells (b.cnt : Int) ++ [.int .i64 b.clr, .int .i64 b.dn] := by rw [bkOw, List.append_assoc (flC b ++ owC b)]; rfl
theorem bkClr (b : Bk) : KBk.cells b.den = (flC b ++ owC b ++ [.int .i64 b.cnt]) ++ ki.cells (b.clr : Int) ++ [.int .i64 b.dn] := by rw [bkOw]; simp only [List.append_assoc]; rfl
theorem bkDn (b : Bk) : KBk.cells b.den = (flC b ++ owC b ++ [.int .i64 b.cnt, .int .i64 b.clr]) ++ ki.cells (b.dn : Int) ++ [] := by rw [bkOw]; simp only [List.append_assoc]; rfl
theorem fo_len (b : Bk) (l : List Value) : (flC b ++ owC b ++ l).length = 16 + l.length := by rw [List.length_append, List.length_append, flC_len, owC_len]
section
variable {h : Heap} {p : Nat} {b : Bk} (o : Obj h p KBk b.den)
include o
theorem bk_ldFl {i : Nat} (hi : i < 8) {K : Int → Prop} (hK : K (b.fl i)) : ld ki h (((ptr p).add 0).add (i * 1)) K := by
  rw [add_add']
  exact o.ldArr (ka := ki) (n := 8) (f := flD b) (off := 0) ⟨[], _, bkFl b, rfl⟩ hi hK rfl
theorem bk_ldOw {i : Nat} (hi : i < 8) {K : Bool → Prop} (hK : K (b.ow i)) : ld .bool h (((ptr p).add 8).add (i * 1)) K := by
  rw [add_add']
  exact o.ldArr (ka := .bool) (n := 8) (f := owD b) (off := 8) ⟨flC b, _, bkOw b, flC_len b⟩ hi hK rfl
theorem bk_stFl {i : Nat} (hi : i < 8) {v : Int} {K : Heap → Prop} (hK : ∀ h', Obj h' p KBk (Bk.den { b with fl := updN b.fl i v }) → Ext (· = p) h h' → K h') : st ki h (((ptr p).add 0).add (i * 1)) v K := by
  rw [add_add']
  exact o.stArr (ka := ki) (n := 8) (f := flD b) (off := 0) hi rfl ⟨[], _, bkFl b, bkFl { b with fl := updN b.fl i v }, rfl⟩ hK rfl
theorem bk_stOw {i : Nat} (hi : i < 8) {v : Bool} {K : Heap → Prop} (hK : ∀ h', Obj h' p KBk (Bk.den { b with ow := updN b.ow i v }) → Ext (· = p) h h' → K h') : st .bool h (((ptr p).add 8).add (i * 1)) v K := by
  rw [add_add']
  exact o.stArr (ka := .bool) (n := 8) (f := owD b) (off := 8) hi rfl ⟨flC b, _, bkOw b, bkOw { b with ow := updN b.ow i v }, flC_len b⟩ hK rfl
theorem bk_ldCnt {K : Int → Prop} (hK : K b.cnt) : ld ki h ((ptr p).add 16) K := o.ld (kf := ki) (y := (b.cnt : Int)) ⟨_, _, bkCnt b, by rw [List.length_append, flC_len, owC_len]⟩ hK
theorem bk_ldClr {K : Int → Prop} (hK : K b.clr) : ld ki h ((ptr p).add 17) K := o.ld (kf := ki) (y := (b.clr : Int)) ⟨_, _, bkClr b, fo_len b _⟩ hK
theorem bk_ldDn {K : Int → Prop} (hK : K b.dn) : ld ki h ((ptr p).add 18) K := o.ld (kf := ki) (y := (b.dn : Int)) ⟨_, _, bkDn b, fo_len b _⟩ hK
theorem bk_stCnt {v : Int} {K : Heap → Prop} (hK : ∀ h', Obj h' p KBk (Bk.den { b with cnt := v }) → Ext (· = p) h h' → K h') : st ki h ((ptr p).add 16) v K :=
  o.st (kf := ki) (x' := Bk.den { b with cnt := v }) (spl (bkCnt b) (bkCnt { b with cnt := v }) (by rw [List.length_append, flC_len, owC_len])) (by decide) rfl hK
theorem bk_stClr {v : Int} {K : Heap → Prop} (hK : ∀ h', Obj h' p KBk (Bk.den { b with clr := v }) → Ext (· = p) h h' → K h') : st ki h ((ptr p).add 17) v K :=
  o.st (kf := ki) (off := 17) (x' := Bk.den { b with clr := v }) (spl (bkClr b) (bkClr { b with clr := v }) (fo_len b _)) (by decide) rfl hK
theorem bk_stDn {v : Int} {K : Heap → Prop} (hK : ∀ h', Obj h' p KBk (Bk.den { b with dn := v }) → Ext (· = p) h h' → K h') : st ki h ((ptr p).add 18) v K :=
  o.st (kf := ki) (off := 18) (x' := Bk.den { b with dn := v }) (spl (bkDn b) (bkDn { b with dn := v }) (fo_len b _)) (by decide) rfl hK
end
def EntryC (c : Option Addr → Den KAcc → Int → Heap → (Bool → Heap → Prop) → Prop) : Prop := ∀ {h : Heap} {p P : Nat} {b b' : Bk} {e : Acc} {w : Nat} {Q : Bool → Heap → Prop}, P ≤ 8 → 1 ≤ P → EStep P b e b' → (e.1 : Int) = (w : Int) → (e.2.1 : Int) ≠ 4 → (e.2.2.1 : Int) < 2 + (P : Int) → Obj h p KBk (Bk.den { b with ow := updN b.ow w false }) →
  (∀ h', Obj h' p KBk b'.den → Ext (· = p) h h' → Q true h') → c (some (ptr p)) e (P : Int) h Q
theorem ow_keep {b : Bk} {w : Nat} (h : b.ow w = false) : ({ b with ow := updN b.ow w false } : Bk) = b := by
  rw [← h, updN_self]
theorem wsub2 {i : Nat} (h : i < 64) : w64 (2 + (i : Int) - 2) = (i : Int) := by rw [w64_of] <;> omega
theorem entry_spec : EntryC law9_Book_entry.M := by
  intro h p P b b' e w Q p8 p1 S hw hk hl o hQ
  have rf : ∀ {h : Heap}, Ext (· = p) h h := fun {h} => (Go.Mx.le.refl h).toExt
  cases S with
  | far w' hw' ow e q =>
    rcases q.kd with z | z
    · exact absurd z hk
    · exact absurd hl (Int.not_lt.2 z.1)
  | ldF w' w0 hw' ow =>
    obtain rfl : w' = w := Int.ofNat.inj hw
    rw [ow_keep ow] at o
    have e2 := wsub2 (i := w') (by omega)
    refine dyes (show (2 : Int) ≤ 2 + (w' : Int) by omega) (dyes rfl (dyes e2 (dyes (show (0 : Int) < (w' : Int) by omega) ?_)))
    show (0 ≤ w64 (2 + (w' : Int) - 2) ∧ w64 (2 + (w' : Int) - 2) < 8) ∧ ld ki h (((ptr p).add 0).add ((w64 (2 + (w' : Int) - 2)).toNat * 1)) _
    rw [e2, Int.toNat_natCast]
    refine ⟨⟨by omega, by omega⟩, bk_ldFl o (by omega) ?_⟩
    rw [decide_eq_true rfl]
    exact hQ h o rf
  | stF w' w0 hw' ow =>
    obtain rfl : w' = w := Int.ofNat.inj hw
    rw [ow_keep ow] at o
    have e2 := wsub2 (i := w') (by omega)
    refine dyes (show (2 : Int) ≤ 2 + (w' : Int) by omega) (dno (show ¬ (1 : Int) = 0 by decide) (dyes rfl ?_))
    show (0 ≤ w64 (2 + (w' : Int) - 2) ∧ w64 (2 + (w' : Int) - 2) < 8) ∧ st ki h (((ptr p).add 0).add ((w64 (2 + (w' : Int) - 2)).toNat * 1)) 1 _
    rw [e2, Int.toNat_natCast]
    refine ⟨⟨by omega, by omega⟩, bk_stFl o (by omega) fun h' o' x => dyes rfl (dyes (show (0 : Int) < (w' : Int) by omega) ?_)⟩
    exact hQ h' o' x
  | casS w' w0 hw' ow f =>
    obtain rfl : w' = w := Int.ofNat.inj hw
    rw [ow_keep ow] at o
    have e2 := wsub2 (i := w') (by omega)
    refine dyes (show (2 : Int) ≤ 2 + (w' : Int) by omega) (dno (show ¬ (2 : Int) = 0 by decide) (dno (show ¬ (2 : Int) = 1 by decide) (dyes rfl (dno (fun q => q rfl) (dno (fun q => q rfl) ?_)))))
    show (0 ≤ w64 (2 + (w' : Int) - 2) ∧ w64 (2 + (w' : Int) - 2) < 8) ∧ ld ki h (((ptr p).add 0).add ((w64 (2 + (w' : Int) - 2)).toNat * 1)) _
    rw [e2, Int.toNat_natCast]
    refine ⟨⟨by omega, by omega⟩, bk_ldFl o (by omega) ?_⟩
    rw [decide_eq_true f]
    refine ⟨fun q => (by cases q), fun _ => dyes (show (0 : Int) < (w' : Int) by omega) (dno (fun q => q rfl) (dno (show ¬ (w' : Int) = 0 by omega) ⟨fun q => (by cases q), fun _ => ⟨fun _ => ?_, fun q => (by cases q)⟩⟩))⟩
    show (0 ≤ w64 (2 + (w' : Int) - 2) ∧ w64 (2 + (w' : Int) - 2) < 8) ∧ st ki h (((ptr p).add 0).add ((w64 (2 + (w' : Int) - 2)).toNat * 1)) 0 _
    rw [e2, Int.toNat_natCast]
    refine ⟨⟨by omega, by omega⟩, bk_stFl o (by omega) fun h1 o1 x1 => ?_⟩
    refine ⟨⟨by show (0 : Int) ≤ (w' : Int); omega, by show (w' : Int) < 8; omega⟩, ?_⟩
    show st .bool h1 (((ptr p).add 8).add (((w' : Nat) : Int).toNat * 1)) true _
    rw [Int.toNat_natCast]
    refine bk_stOw o1 (by omega) fun h2 o2 x2 => dno (show ¬ (w' : Int) = 0 by omega) ?_
    exact hQ h2 o2 (x1.trans x2)
  | casF w' w0 hw' ow f =>
    obtain rfl : w' = w := Int.ofNat.inj hw
    rw [ow_keep ow] at o
    have e2 := wsub2 (i := w') (by omega)
    refine dyes (show (2 : Int) ≤ 2 + (w' : Int) by omega) (dno (show ¬ (2 : Int) = 0 by decide) (dno (show ¬ (2 : Int) = 1 by decide) (dyes rfl (dno (fun q => q rfl) (dno (fun q => q rfl) ?_)))))
    show (0 ≤ w64 (2 + (w' : Int) - 2) ∧ w64 (2 + (w' : Int) - 2) < 8) ∧ ld ki h (((ptr p).add 0).add ((w64 (2 + (w' : Int) - 2)).toNat * 1)) _
    rw [e2, Int.toNat_natCast]
    refine ⟨⟨by omega, by omega⟩, bk_ldFl o (by omega) ?_⟩
    rw [decide_eq_false f]
    refine ⟨fun q => (by cases q), fun _ => dyes (show (0 : Int) < (w' : Int) by omega) (dno (fun q => q rfl) (dno (show ¬ (w' : Int) = 0 by omega) ⟨fun q => (by cases q), fun _ => ⟨fun q => (by cases q), fun _ => ?_⟩⟩))⟩
    exact hQ h o rf
  | clrS i i0 hi ow f =>
    obtain rfl : w = 0 := (Int.ofNat.inj hw).symm
    rw [ow_keep ow] at o
    have e2 := wsub2 (i := i) (by omega)
    refine dyes (show (2 : Int) ≤ 2 + (i : Int) by omega) (dno (show ¬ (2 : Int) = 0 by decide) (dno (show ¬ (2 : Int) = 1 by decide) (dyes rfl (dno (fun q => q rfl) (dno (fun q => q rfl) ?_)))))
    show (0 ≤ w64 (2 + (i : Int) - 2) ∧ w64 (2 + (i : Int) - 2) < 8) ∧ ld ki h (((ptr p).add 0).add ((w64 (2 + (i : Int) - 2)).toNat * 1)) _
    rw [e2, Int.toNat_natCast]
    refine ⟨⟨by omega, by omega⟩, bk_ldFl o (by omega) ?_⟩
    rw [decide_eq_true f]
    refine ⟨fun q => (by cases q), fun _ => dno (show ¬ (0 : Int) < ((0 : Nat) : Int) by decide) (dyes (show ((0 : Nat) : Int) = 0 from rfl) ?_)⟩
    show law9_Book_entry.j3 _ _ Q (decide ((i : Int) = 0), ()) h
    rw [decide_eq_false (show ¬ (i : Int) = 0 by omega)]
    refine ⟨fun q => (by cases q), fun _ => ⟨fun _ => ?_, fun q => (by cases q)⟩⟩
    show (0 ≤ w64 (2 + (i : Int) - 2) ∧ w64 (2 + (i : Int) - 2) < 8) ∧ st ki h (((ptr p).add 0).add ((w64 (2 + (i : Int) - 2)).toNat * 1)) 0 _
    rw [e2, Int.toNat_natCast]
    refine ⟨⟨by omega, by omega⟩, bk_stFl o (by omega) fun h1 o1 x1 => ⟨⟨by show (0 : Int) ≤ 0; decide, by show (0 : Int) < 8; decide⟩, ?_⟩⟩
    show st .bool h1 (((ptr p).add 8).add (0 * 1)) true _
    refine bk_stOw o1 (by omega) fun h2 o2 x2 => dyes (show ((0 : Nat) : Int) = 0 from rfl) ?_
    refine bk_ldClr o2 (bk_stClr o2 fun h3 o3 x3 => ?_)
    exact hQ h3 o3 ((x1.trans x2).trans x3)
  | clrF i i0 hi ow f =>
    obtain rfl : w = 0 := (Int.ofNat.inj hw).symm
    rw [ow_keep ow] at o
    have e2 := wsub2 (i := i) (by omega)
    refine dyes (show (2 : Int) ≤ 2 + (i : Int) by omega) (dno (show ¬ (2 : Int) = 0 by decide) (dno (show ¬ (2 : Int) = 1 by decide) (dyes rfl (dno (fun q => q rfl) (dno (fun q => q rfl) ?_)))))
    show (0 ≤ w64 (2 + (i : Int) - 2) ∧ w64 (2 + (i : Int) - 2) < 8) ∧ ld ki h (((ptr p).add 0).add ((w64 (2 + (i : Int) - 2)).toNat * 1)) _
    rw [e2, Int.toNat_natCast]
    refine ⟨⟨by omega, by omega⟩, bk_ldFl o (by omega) ?_⟩
    rw [decide_eq_false f]
    refine ⟨fun q => (by cases q), fun _ => dno (show ¬ (0 : Int) < ((0 : Nat) : Int) by decide) (dyes (show ((0 : Nat) : Int) = 0 from rfl) ?_)⟩
    show law9_Book_entry.j3 _ _ Q (decide ((i : Int) = 0), ()) h
    rw [decide_eq_false (show ¬ (i : Int) = 0 by omega)]
    refine ⟨fun q => (by cases q), fun _ => ⟨fun q => (by cases q), fun _ => ?_⟩⟩
    exact hQ h o rf
  | stD ow =>
    obtain rfl : w = 0 := (Int.ofNat.inj hw).symm
    rw [ow_keep ow] at o
    refine dno (show ¬ (2 : Int) ≤ 1 by decide) (dyes rfl (dyes rfl ?_))
    exact derefI (bk_stDn o fun h1 o1 x1 => dyes (show ((0 : Nat) : Int) = 0 from rfl) (hQ h1 o1 x1))
  | ldD w' w0 hw' ow =>
    obtain rfl : w' = w := Int.ofNat.inj hw
    rw [ow_keep ow] at o
    refine dno (show ¬ (2 : Int) ≤ 1 by decide) (dyes rfl (dno (show ¬ (0 : Int) = 1 by decide) (dyes rfl (dyes (show (0 : Int) < (w' : Int) by omega) ?_))))
    show ld ki h ((ptr p).add 18) _
    refine bk_ldDn o ?_
    rw [decide_eq_true rfl]
    exact hQ h o rf
  | ldC ow =>
    obtain rfl : w = 0 := (Int.ofNat.inj hw).symm
    rw [ow_keep ow] at o
    refine dno (show ¬ (2 : Int) ≤ 0 by decide) (dno (show ¬ (0 : Int) = 1 by decide) (dyes rfl (dyes (show ((0 : Nat) : Int) = 0 from rfl) ?_)))
    show ld ki h ((ptr p).add 16) _
    refine bk_ldCnt o ?_
    rw [decide_eq_true rfl]
    exact hQ h o rf
  | inc w' w0 hw' ow =>
    obtain rfl : w' = w := Int.ofNat.inj hw
    rw [ow_keep ow] at o
    refine dno (show ¬ (2 : Int) ≤ 0 by decide) (dno (show ¬ (0 : Int) = 1 by decide) (dno (show ¬ (3 : Int) = 0 by decide) ?_))
    refine derefI (bk_ldCnt o (derefI (bk_stCnt o fun h1 o1 x1 => dyes rfl (derefI ?_))))
    exact bk_ldCnt o1 (dyes rfl (dyes rfl (dyes (show (0 : Int) < (w' : Int) by omega) (hQ h1 o1 x1))))
  | dec w' hw' ow =>
    obtain rfl : w' = w := Int.ofNat.inj hw
    refine dno (show ¬ (2 : Int) ≤ 0 by decide) (dno (show ¬ (0 : Int) = 1 by decide) (dno (show ¬ (3 : Int) = 0 by decide) ?_))
    refine derefI (bk_ldCnt o (derefI (bk_stCnt o fun h1 o1 x1 => dyes rfl (derefI ?_))))
    refine bk_ldCnt o1 (dyes rfl (dno (show ¬ (-1 : Int) = 1 by decide) ?_))
    show Q (decide ((-1 : Int) = -1)) _
    exact hQ h1 o1 x1
/-- Who owes, and who pays. -/
theorem EStep.less {P : Nat} {b b' : Bk} {e : Acc} (S : EStep P b e b') (p1 : 1 ≤ P) : ∃ w : Nat, (e.1 : Int) = (w : Int) ∧ w < P ∧ ((e.2.1 : Int) = 3 → (e.2.2.1 : Int) = 0 → decide ((e.2.2.2.1 : Int) = -1) = b.ow w) ∧ ((e.2.1 : Int) ≠ 3 ∨ (e.2.2.1 : Int) ≠ 0 → b.ow w = false) ∧ ((e.2.1 : Int) ≠ 4 → 0 ≤ (e.2.2.1 : Int)) ∧
    ((e.2.1 : Int) = 4 ∨ 2 + (P : Int) ≤ (e.2.2.1 : Int) → b' = { b with ow := updN b.ow w false }) := by
  have k3 : ∀ {k : Int} {A : Prop}, k ≠ 3 → k = 3 → A := fun a b => absurd b a
  have nf : ∀ {k a : Int} {A : Prop}, k ≠ 4 → a < 2 + (P : Int) → (k = 4 ∨ 2 + (P : Int) ≤ a) → A := fun a b c => absurd c (by omega)
  cases S with
  | far w hw ow e q =>
    refine ⟨w, q.who, hw, fun z => ?_, fun _ => ow, fun z => ?_, fun _ => (ow_keep ow).symm⟩
    · rcases q.kd with y | ⟨_, _, y⟩
      · have : (4 : Int) = 3 := y.symm.trans z
        omega
      · exact absurd (show (3 : Int) ≤ 2 from by rw [← z]; exact y) (by decide)
    · rcases q.kd with y | ⟨y, _, _⟩
      · exact absurd y z
      · exact Int.le_trans (by omega) y
  | ldF w w0 hw ow => exact ⟨w, rfl, hw, k3 (show (0 : Int) ≠ 3 by decide), fun _ => ow, fun _ => (by omega : (0 : Int) ≤ 2 + (w : Int)), nf (show (0 : Int) ≠ 4 by decide) (show 2 + (w : Int) < 2 + (P : Int) by omega)⟩
  | stF w w0 hw ow => exact ⟨w, rfl, hw, k3 (show (1 : Int) ≠ 3 by decide), fun _ => ow, fun _ => (by omega : (0 : Int) ≤ 2 + (w : Int)), nf (show (1 : Int) ≠ 4 by decide) (show 2 + (w : Int) < 2 + (P : Int) by omega)⟩
  | casS w w0 hw ow f => exact ⟨w, rfl, hw, k3 (show (2 : Int) ≠ 3 by decide), fun _ => ow, fun _ => (by omega : (0 : Int) ≤ 2 + (w : Int)), nf (show (2 : Int) ≠ 4 by decide) (show 2 + (w : Int) < 2 + (P : Int) by omega)⟩
  | casF w w0 hw ow f => exact ⟨w, rfl, hw, k3 (show (2 : Int) ≠ 3 by decide), fun _ => ow, fun _ => (by omega : (0 : Int) ≤ 2 + (w : Int)), nf (show (2 : Int) ≠ 4 by decide) (show 2 + (w : Int) < 2 + (P : Int) by omega)⟩
  | clrS i i0 hi ow f => exact ⟨0, rfl, (by omega), k3 (show (2 : Int) ≠ 3 by decide), fun _ => ow, fun _ => (by omega : (0 : Int) ≤ 2 + (i : Int)), nf (show (2 : Int) ≠ 4 by decide) (show 2 + (i : Int) < 2 + (P : Int) by omega)⟩
  | clrF i i0 hi ow f => exact ⟨0, rfl, (by omega), k3 (show (2 : Int) ≠ 3 by decide), fun _ => ow, fun _ => (by omega : (0 : Int) ≤ 2 + (i : Int)), nf (show (2 : Int) ≠ 4 by decide) (show 2 + (i : Int) < 2 + (P : Int) by omega)⟩
  | stD ow => exact ⟨0, rfl, (by omega), k3 (show (1 : Int) ≠ 3 by decide), fun _ => ow, fun _ => (by omega : (0 : Int) ≤ (1 : Int)), nf (show (1 : Int) ≠ 4 by decide) (show (1 : Int) < 2 + (P : Int) by omega)⟩
  | ldD w w0 hw ow => exact ⟨w, rfl, hw, k3 (show (0 : Int) ≠ 3 by decide), fun _ => ow, fun _ => (by omega : (0 : Int) ≤ (1 : Int)), nf (show (0 : Int) ≠ 4 by decide) (show (1 : Int) < 2 + (P : Int) by omega)⟩
  | ldC ow => exact ⟨0, rfl, (by omega), k3 (show (0 : Int) ≠ 3 by decide), fun _ => ow, fun _ => (by omega : (0 : Int) ≤ (0 : Int)), nf (show (0 : Int) ≠ 4 by decide) (show (0 : Int) < 2 + (P : Int) by omega)⟩
  | inc w w0 hw ow => exact ⟨w, rfl, hw, fun _ _ => ow.symm, fun z => absurd z (by rintro (z | z) <;> exact z rfl), fun _ => Int.le_refl (0 : Int), nf (show (3 : Int) ≠ 4 by decide) (show (0 : Int) < 2 + (P : Int) by omega)⟩
  | dec w hw ow => exact ⟨w, rfl, hw, fun _ _ => ow.symm, fun z => absurd z (by rintro (z | z) <;> exact z rfl), fun _ => Int.le_refl (0 : Int), nf (show (3 : Int) ≠ 4 by decide) (show (0 : Int) < 2 + (P : Int) by omega)⟩
def fiL (l : List DTd) : Nat := l.countP fun t => decide (t.1 = 3)
theorem puL_take {l : List DTd} {i : Nat} {t : DTd} (h : l[i]? = some t) : (puL (l.take (i + 1)) : Int) = (puL (l.take i) : Int) + if (t.1 : Int) = 0 then 1 else 0 := by
  have : l.take (i + 1) = l.take i ++ [t] := by rw [List.take_add_one, h]; rfl
  rw [this]
  unfold puL
  rw [List.countP_append]
  by_cases e : (t.1 : Int) = 0
  · rw [if_pos e]; simp [List.countP_cons, e]
  · rw [if_neg e]; simp [List.countP_cons, e]
theorem fiL_take {l : List DTd} {i : Nat} {t : DTd} (h : l[i]? = some t) : (fiL (l.take (i + 1)) : Int) = (fiL (l.take i) : Int) + if (t.1 : Int) = 3 then 1 else 0 := by
  have : l.take (i + 1) = l.take i ++ [t] := by rw [List.take_add_one, h]; rfl
  rw [this]
  unfold fiL
  rw [List.countP_append]
  by_cases e : (t.1 : Int) = 3
  · rw [if_pos e]; simp [List.countP_cons, e]
  · rw [if_neg e]; simp [List.countP_cons, e]
theorem puN_nn (m : WM) : 0 ≤ puN m ∧ 0 ≤ wkN m := by
  have a : (0 : Int) ≤ 0 := by decide
  have b : (0 : Int) ≤ 1 := by decide
  cases m <;> first | exact ⟨a, a⟩ | exact ⟨b, a⟩ | exact ⟨a, b⟩ | exact ⟨b, b⟩
theorem flags_spec {cF cP cM cE} (iF : FairC9 cF) (iP : PlayK cP) (iM : MovedC9 cM) (iE : EntryC cE) {first most sl : Int} {td pk : Sl} {h : Heap} {todos : List DTd} {picks : List Int} (ht : Arr h KTd td todos) (hp : Arr h ki pk picks) {Q : Bool → Heap → Prop} (hQ : ∀ h', Go.Mx.le h h' → Q true h') :
    law9_ParkFlags.M cF cP cM cE first most sl td pk h Q := by
  refine iF ht hp (fun j => ⟨fun q => (by cases q), fun _ => ?_⟩) ⟨fun _ => hQ h (.refl h), fun q => (by cases q)⟩
  obtain ⟨t1, t2, hc, s0, s7, ka⟩ := judgeP_ok.1 j
  refine iP ht hp j fun r h' s P hP E R => ?_
  have p1 := E.pk.mem.p1
  have p8 := E.pk.mem.p8
  obtain ⟨s2, e2, I2, bs, b0, b1, B⟩ := park_book (todos := todos) (ws := whos sl picks) hc p1 p8 (by rw [whos_len]; omega) (whos_lt s0 hP)
  have eg : s2.g = s.g := e2.trans E.g.symm
  have le' := R.tk.le
  have R2 := R
  rw [← eg] at R2
  have lgn : s2.g.m.lg.length ≤ 1048576 := by rw [eg]; have := E.mov.lgl; rw [whos_len] at this; omega
  have ebt : r.2.2.2.2.2.2.2.1 = decide (s2.wm = .idle) := by
    rw [R2.bt]
    have := I2.between
    by_cases e : s2.wm = .idle
    · rw [decide_eq_true e]; exact this.2 e
    · rw [decide_eq_false e, ← Bool.not_eq_true]
      exact fun q => e (this.1 q)
  obtain ⟨tkS, lfS, stS, flS, sl', dn', wk', bt', lgS, u⟩ := r
  have ebt : bt' = decide (s2.wm = .idle) := ebt
  have esl : sl' = SLc s2 := R2.sl
  have edn : dn' = DNc s2 := R2.dn
  have ewk : wk' = s2.g.woken := R2.wk
  have lg : Arr h' KAcc lgS s2.g.m.lg := R2.lg.arr
  have fl : Arr h' ki flS (flagsOf s2.g.m.cs P) := by have := R2.fl.arr; rw [I2.len] at this; exact this
  have fL := I2.flag
  have l1 := lg.1
  have l2 := fl.1
  have l3 := (fL 0).1
  have hw : w64 (1 + sl) = (P : Int) := by rw [w64_of] <;> omega
  have hw2 : w64 (2 + (P : Int)) = 2 + (P : Int) := by rw [w64_of] <;> omega
  refine dcase (fun q => absurd rfl q) (fun _ => iM E hP t2 t1 R ht hp ⟨fun q => (by cases q), fun _ => ?_⟩)
  refine Obj.new (k := KBk) (x := Bk.zero.den) fun p g hg ob l0 => ?_
  refine Loop.up s2.g.m.lg.length (fun s => s.1) (fun i x k => Go.Mx.le h' k ∧ Obj k p KBk (bs i).den) rfl ⟨l0, by rw [b0]; exact ob⟩ ?_
  rintro i ⟨i', u1⟩ k go hi hcn ⟨lk, ok⟩ hgo
  dsimp only at hcn; subst hcn
  refine dcase (fun d => ?_) (fun d => ?_)
  · have d : (i : Int) < (lgS.len : Int) := d
    have hil : i < s2.g.m.lg.length := by omega
    obtain ⟨e, he⟩ : ∃ e, s2.g.m.lg[i]? = some e := ⟨_, List.getElem?_eq_getElem hil⟩
    have S := b1 i e he
    obtain ⟨w, ew, wP, ls1, ls2, ad, far⟩ := S.less p1
    obtain ⟨a, ha⟩ := lg.addr (by omega)
    refine ⟨⟨by show (0 : Int) ≤ (i : Int); omega, d⟩, ?_⟩
    show deref lgS.a _
    rw [ha]
    show ld KAcc k (a.add (((i : Nat) : Int).toNat * 6)) _
    rw [Int.toNat_natCast]
    refine (lg.le lk).ldAt ha he rfl ?_
    have nx : ∀ {k'}, Go.Mx.le h' k' → Obj k' p KBk (bs (i + 1)).den → law9_ParkFlags.j2 Q go ((i : Int), u1) (false, ()) k' := fun {k'} a b => ⟨fun q => (by cases q), fun _ => hgo hil _ _ (by show w64 ((i : Int) + 1) = _; rw [w64_of] <;> omega) ⟨a, b⟩⟩
    have j5 : ∀ {z : Bool}, z = (bs i).ow w → law9_ParkFlags.j5 cE sl Q (ptr p) go ((i : Int), u1) e (z, ()) k := fun {z} ez => by
      obtain ⟨e1, e2', e3, e4, e5, e6, e7⟩ := e
      have ew : e1 = (w : Int) := ew
      subst ew
      refine dno (show ¬ ((w : Int) < 0) by omega) ?_
      refine dno (show ¬ (w64 (1 + sl) ≤ (w : Int)) by rw [hw]; omega) ⟨⟨by show (0 : Int) ≤ (w : Int); omega, by show (w : Int) < 8; omega⟩, ?_⟩
      show ld .bool k (((ptr p).add 8).add (((w : Nat) : Int).toNat * 1)) _
      rw [Int.toNat_natCast]
      refine bk_ldOw ok (by omega) ?_
      rw [ez]
      have : (!((bs i).ow w == (bs i).ow w)) = false := by simp
      rw [this]
      refine ⟨fun q => (by cases q), fun _ => ⟨⟨by show (0 : Int) ≤ (w : Int); omega, by show (w : Int) < 8; omega⟩, ?_⟩⟩
      show st .bool k (((ptr p).add 8).add (((w : Nat) : Int).toNat * 1)) false _
      rw [Int.toNat_natCast]
      refine bk_stOw ok (by omega) fun k2 o2 x2 => ?_
      have l2 : Go.Mx.le h' k2 := le_ext lk x2 fun x q => by subst q; exact hg
      refine dcase (fun k4 => ?_) (fun k4 => ?_)
      · have k4 : ¬ e2' = 4 := k4
        have a0 := ad k4
        refine dno (show ¬ e3 < 0 from Int.not_lt.2 a0) ?_
        rw [hw, hw2]
        refine dcase (fun lt => ?_) (fun lt => ?_)
        · have lt : e3 < 2 + (P : Int) := lt
          refine iE p8 p1 S rfl k4 lt o2 fun k3 o3 x3 => ?_
          exact nx (le_ext l2 x3 fun x q => by subst q; exact hg) o3
        · have lt : ¬ e3 < 2 + (P : Int) := lt
          have := far (.inr (Int.not_lt.1 lt))
          rw [← this] at o2
          exact nx l2 o2
      · have k4 : e2' = 4 := Classical.not_not.1 k4
        have := far (.inl k4)
        rw [← this] at o2
        exact nx l2 o2
    refine dcase (fun q3 => dcase (fun q0 => ?_) (fun q0 => j5 (ls2 (.inr q0)).symm)) (fun q3 => j5 (ls2 (.inl q3)).symm)
    exact j5 (ls1 q3 q0)
  · have d : ¬ (i : Int) < (lgS.len : Int) := d
    obtain rfl : i = s2.g.m.lg.length := by omega
    clear hgo go d hi
    refine Loop.up P (fun s => s.1) (fun i x k2 => k2 = k) rfl rfl ?_
    rintro n ⟨n', u2⟩ k2 go hn hcn rfl hgo
    dsimp only at hcn; subst hcn
    show (decide ((n : Int) < w64 (1 + sl)) = true → _) ∧ (decide ((n : Int) < w64 (1 + sl)) = false → _)
    rw [hw]
    refine dcase (fun d => ?_) (fun d => ?_)
    · have nP : n < P := by omega
      obtain ⟨af, haf⟩ := fl.addr (by omega)
      refine ⟨⟨by show (0 : Int) ≤ (n : Int); omega, by show (n : Int) < 8; omega⟩, ⟨by show (0 : Int) ≤ (n : Int); omega, by show (n : Int) < (flS.len : Int); omega⟩, ?_⟩
      show deref flS.a _
      rw [haf]
      show ld ki k2 (af.add (((n : Nat) : Int).toNat * 1)) _
      rw [Int.toNat_natCast]
      refine (fl.le lk).ldAt haf ((fL n).2 nP) rfl ?_
      show ld ki k2 (((ptr p).add 0).add (n * 1)) _
      refine bk_ldFl ok (by omega) (dno (fun q => q (B.fl n nP).symm) (hgo nP _ _ (by show w64 ((n : Int) + 1) = _; rw [w64_of] <;> omega) rfl))
    · obtain rfl : n = P := by omega
      clear hgo go d hn
      have ht2 : Arr k2 KTd td todos := (ht.le le').le lk
      have tl := ht2.1
      refine Loop.up todos.length (fun s => s.2.2.1) (fun i x k3 => k3 = k2 ∧ (x.1 : Int) = (puL (todos.take i) : Int) ∧ (x.2.1 : Int) = (fiL (todos.take i) : Int)) rfl ⟨rfl, rfl, rfl⟩ ?_
      rintro m ⟨pu, fi, m', u3⟩ k3 go hm hcn ⟨rfl, hpu, hfi⟩ hgo
      dsimp only at hcn hpu hfi; subst hcn
      have pb : puL (todos.take m) ≤ m ∧ fiL (todos.take m) ≤ m := by
        unfold puL fiL
        have := List.length_take_le m todos
        exact ⟨Nat.le_trans List.countP_le_length this, Nat.le_trans List.countP_le_length this⟩
      refine dcase (fun d => ?_) (fun d => ?_)
      · have d : (m : Int) < (td.len : Int) := d
        have hml : m < todos.length := by omega
        obtain ⟨t, hx⟩ : ∃ t, todos[m]? = some t := ⟨_, List.getElem?_eq_getElem hml⟩
        obtain ⟨a, ha⟩ := ht2.addr (by omega)
        have e1 := puL_take hx
        have e2 := fiL_take hx
        have rd : ∀ {K : Int → Prop}, K (t.1 : Int) → (0 ≤ (m : Int) ∧ (m : Int) < (td.len : Int)) ∧ deref td.a fun a49 => ld ki k3 ((a49.add (((m : Nat) : Int).toNat * 2)).add 0) K := fun {K} hK => by
          refine ⟨⟨by omega, d⟩, ?_⟩
          rw [ha, Int.toNat_natCast]
          exact ht2.ldPart (kp := ki) (y := (t.1 : Int)) ha hx ⟨[], _, rfl, rfl⟩ rfl hK
        have j7 : ∀ {v : Int}, v = (puL (todos.take (m + 1)) : Int) → law9_ParkFlags.j7 td go (pu, fi, ((m : Nat) : Int), u3) (v, ()) k3 := fun {v} hv => by
          refine rd (dcase (fun q => ?_) (fun q => ?_))
          · have q : (t.1 : Int) = 3 := q
            rw [if_pos q] at e2
            exact hgo hml _ _ (by show w64 ((m : Int) + 1) = _; rw [w64_of] <;> omega) ⟨rfl, hv, by
              have w1 : w64 ((fiL (todos.take m) : Int) + 1) = (fiL (todos.take (m + 1)) : Int) := by rw [w64_of] <;> omega
              show w64 (fi + 1) = _
              rw [hfi]; exact w1⟩
          · have q : ¬ (t.1 : Int) = 3 := q
            rw [if_neg q] at e2
            exact hgo hml _ _ (by show w64 ((m : Int) + 1) = _; rw [w64_of] <;> omega) ⟨rfl, hv, by show fi = _; rw [hfi]; exact (by omega : (fiL (todos.take m) : Int) = (fiL (todos.take (m + 1)) : Int))⟩
        refine rd (dcase (fun q => ?_) (fun q => ?_))
        · have q : (t.1 : Int) = 0 := q
          rw [if_pos q] at e1
          have w1 : w64 ((puL (todos.take m) : Int) + 1) = (puL (todos.take (m + 1)) : Int) := by rw [w64_of] <;> omega
          exact j7 (by rw [hpu]; exact w1)
        · have q : ¬ (t.1 : Int) = 0 := q
          rw [if_neg q] at e1
          exact j7 (by rw [hpu]; exact (by omega : (puL (todos.take m) : Int) = (puL (todos.take (m + 1)) : Int)))
      · have d : ¬ (m : Int) < (td.len : Int) := d
        obtain rfl : m = todos.length := by omega
        rw [List.take_length] at hpu hfi
        have yes : Q true k3 := hQ k3 (le'.trans lk)
        have B1 := B.pu
        have B2 := puN_nn s2.wm
        have B3 := B.clr
        show ld ki k3 ((ptr p).add 16) _
        refine bk_ldCnt ok (dyes (esl.trans B.cnt.symm) ?_)
        show ld ki k3 ((ptr p).add 18) _
        refine bk_ldDn ok (dyes (edn.trans B.dn.symm) (dyes (show wk' ≤ pu by rw [ewk, hpu]; exact (by omega : s2.g.woken ≤ (puL todos : Int))) ?_))
        show ld ki k3 ((ptr p).add 17) _
        refine bk_ldClr ok (dyes (show wk' ≤ (bs s2.g.m.lg.length).clr by rw [ewk]; exact (by omega : s2.g.woken ≤ (bs s2.g.m.lg.length).clr)) (dcase (fun _ => yes) (fun f0 => ⟨fun _ => yes, fun bt => ?_⟩)))
        have f0 : ¬ (0 : Int) < fi := f0
        have bt : bt' = true := by
          have bt : (!bt') = false := bt
          revert bt; cases bt' <;> simp
        show ld ki k3 ((ptr p).add 17) _
        refine bk_ldClr ok ?_
        have idle : s2.wm = .idle := of_decide_eq_true (ebt.symm.trans bt)
        have nof := (B.nof fun t ht => ?_).1
        · rw [idle] at nof
          have nof : (bs s2.g.m.lg.length).clr = s2.g.woken + 0 := nof
          show Q (decide (wk' = _)) k3
          rw [decide_eq_true (show wk' = (bs s2.g.m.lg.length).clr by rw [ewk, nof]; exact (by omega : s2.g.woken = s2.g.woken + 0))]
          exact yes
        · have ok3 := List.all_eq_true.1 ka t ht
          unfold kindOk at ok3
          have n3 : ¬ (t.1 : Int) = 3 := fun q => by
            have : 0 < fiL todos := by
              unfold fiL
              exact List.countP_pos_iff.2 ⟨t, ht, decide_eq_true q⟩
            omega
          by_cases z0 : (t.1 : Int) = 0
          · exact .inl z0
          · by_cases z1 : (t.1 : Int) = 1
            · exact .inr z1
            · exfalso
              rw [decide_eq_false z0, decide_eq_false z1, decide_eq_false n3] at ok3
              cases ok3
end Go.Mx
