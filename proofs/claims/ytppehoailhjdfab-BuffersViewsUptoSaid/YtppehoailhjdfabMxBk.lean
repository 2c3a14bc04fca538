/-
  The law BuffersOrder.
-/
import Derived.Test.YtppehoailhjdfabMxBi
set_option linter.unusedVariables false
set_option linter.unusedSimpArgs false
set_option linter.unusedSectionVars false
namespace Go.Mx

theorem PB.step_room (ls : List (List AMv)) (s : PB) (x : Int) : (PB.step ls s x).m.room = s.m.room := by
  unfold PB.step
  dsimp only
  split
  · exact (BM.flush_same _ _).2.1
  · split
    · exact (BM.act_n _ _ _).2.1
    · rfl
theorem PB.run_room (ls : List (List AMv)) : ∀ (ps : List Int) (s : PB), (PB.run ls s ps).m.room = s.m.room
  | [], _ => rfl
  | x :: ps, s => (PB.run_room ls ps _).trans (PB.step_room ls s x)
def FewC (b : Bool) (f : List AMv → List AMv) (c : Sl → Bool → Heap → (Sl → Heap → Prop) → Prop) : Prop := ∀ {lists : Sl} {h : Heap} {ls : List (List AMv)} {Q : Sl → Heap → Prop}, Arr2 h KMv lists ls → (∀ t h', Arr2 h' KMv t (fewP f ls) → Go.Mx.le h h' → Q t h') → c lists b h Q
def SameWC (c : Sl → Sl → Heap → (Bool → Heap → Prop) → Prop) : Prop := ∀ {a b : Sl} {h : Heap} {xs : List Wait} {Q : Bool → Heap → Prop}, Arr h KWt a xs → Arr h KWt b xs → xs.length ≤ 1000000000 → Q true h → c a b h Q
def ProgC (c : Den KRun → Sl → Sl → Heap → (Bool → Heap → Prop) → Prop) : Prop := ∀ {r : Den KRun} {l picks : Sl} {h : Heap} {ls : List (List AMv)} {ps : List Int} {esl : List Sl} {s0 : PB} {Q : Bool → Heap → Prop}, Arr2 h KMv l ls → Arr h ki picks ps → Arr h .sl r.1 esl → 1 ≤ ls.length → ls.length ≤ 8 → ps.length ≤ 1048576 → (∀ x ∈ ls, x.length ≤ 4096) →
  s0.Ok ls 0 → s0.e = List.replicate ls.length [] → esl.length = ls.length → (∀ (i : Nat) sl, esl[i]? = some sl → sl.len = ((PB.run ls s0 ps).e.getD i []).length) → (∀ h', Go.Mx.le h h' → Q true h') → c r l picks h Q

theorem fewP_le {f : List AMv → List AMv} {m : Nat} (hf : ∀ l, l.length ≤ 1000 → (f l).length ≤ m) {ls : List (List AMv)} : ∀ x ∈ fewP f ls, x.length ≤ m := by
  intro x hx
  unfold fewP at hx
  split at hx
  · obtain rfl : x = [] := by simpa using hx
    exact Nat.zero_le _
  · obtain ⟨l, _, rfl⟩ := List.mem_map.1 hx
    exact hf _ (List.length_take_le ..)
/-- The bounds that the laws set are kept. -/
theorem judgedB {f : List AMv → List AMv} (hf : ∀ l, l.length ≤ 1000 → (f l).length ≤ 4096) {size used room : Int} {ls : List (List AMv)} {np : Nat} (hnp : np ≤ 1048576) : judgedP (used % 17 + size % 9) (used % 17) (1 + room % 64) (fewP f ls) np = 0 := by
  have hl := fewP_len (f := f) (ls := ls)
  unfold judgedP
  rw [if_neg (by omega), if_neg (by omega), if_neg (by omega), if_neg]
  intro q
  obtain ⟨l, h1, h2⟩ := List.any_eq_true.1 q
  have h3 := fewP_le hf l h1
  have h2 : 4096 < l.length := of_decide_eq_true h2
  omega

section
variable {cw : Sl → Sl → Heap → (Bool → Heap → Prop) → Prop} (iW : SameWC cw)
include iW
end


end Go.Mx
