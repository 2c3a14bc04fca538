/-
  cells.Arena: Watch, Who, Log.
-/
import Derived.Test.YtndhbkhhehleaaaMxAr
set_option linter.unusedVariables false
set_option linter.unusedSimpArgs false
namespace Go.Mx

theorem watch_spec {h0 h : Heap} {b : Nat} {c l : Sl} {sz mk : Int} {cs : List Int} {lg : List Acc} {who : Int} {wt : Bool} (o : ArS h0 h b c l sz mk cs lg who wt) {on : Bool} {Q : Unit → Heap → Prop}
    (hQ : ∀ h', ArS h0 h' b c l sz mk cs lg who on → Step (fpA b c l) (fpA b c l) h h' → Q () h') : cells_Arena_Watch.M (some (ptr b)) on h Q := by
  refine ⟨fun _ => ?_, fun e => (by cases e)⟩
  refine o.obj.st (kf := .bool) (off := 5) (x' := ((sz, (mk, ())), (c, (l, (who, (on, ())))))) rfl (by decide) rfl fun h1 q1 x1 => ?_
  obtain ⟨o1, s1⟩ := o.put q1 x1
  exact hQ h1 o1 s1
theorem who_spec {h0 h : Heap} {b : Nat} {c l : Sl} {sz mk : Int} {cs : List Int} {lg : List Acc} {who : Int} {wt : Bool} (o : ArS h0 h b c l sz mk cs lg who wt) {w : Int} {Q : Unit → Heap → Prop}
    (hQ : ∀ h', ArS h0 h' b c l sz mk cs lg w wt → Step (fpA b c l) (fpA b c l) h h' → Q () h') : cells_Arena_Who.M (some (ptr b)) w h Q := by
  refine ⟨fun _ => ?_, fun e => (by cases e)⟩
  refine o.obj.st (kf := ki) (off := 4) (x' := ((sz, (mk, ())), (c, (l, (w, (wt, ())))))) rfl (by decide) rfl fun h1 q1 x1 => ?_
  obtain ⟨o1, s1⟩ := o.put q1 x1
  exact hQ h1 o1 s1

theorem log_spec {h0 h : Heap} {b : Nat} {c l : Sl} {sz mk : Int} {cs : List Int} {lg : List Acc} {who : Int} {wt : Bool} (o : ArS h0 h b c l sz mk cs lg who wt) (hn : lg.length ≤ 1000000000) {Q : Sl → Heap → Prop}
    (hQ : ∀ s h', New h h' KAcc s lg → Q s h') : cells_Arena_Log.M (some (ptr b)) h Q := by
  have hc := o.log.len
  refine ⟨fun e => (by cases e), fun _ => o.ld3 ?_⟩
  refine dup_spec (sz := 6) o.log.arr rfl rfl (by omega) (by omega) hQ fun t h1 l1 hcp => ?_
  exact (o.more l1).ld3 hcp

end Go.Mx
