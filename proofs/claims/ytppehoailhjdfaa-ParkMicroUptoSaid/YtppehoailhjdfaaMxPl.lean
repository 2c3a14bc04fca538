/-
  The law ParkNew in plain Lean.
-/
import Derived.Test.YtppehoailhjdfaaMxPk
set_option linter.unusedVariables false
set_option linter.unusedSimpArgs false
namespace Go.Mx

theorem mems_new {h : Heap} {t : Sl} {bs : List Int} {h0 : Heap} (n : New h0 h ki t bs) {sz : Int} {K : Addr → Heap → Prop}
    (hK : ∀ b h', h b = none → Go.Mx.le h h' → MmS h0 h' b t ⟨none, 0, 0⟩ sz bs [] 0 → K (ptr b) h') : Go.Mx.new h (KMem.cells (t, (sz, (0, (Sl.none, ()))))) K := by
  refine Obj.new fun b h' hb ob l => hK b h' hb l ?_
  exact ⟨ob, n.more l, ⟨Own.nil _ _, rfl, n.le.trans l, fun x hx => by obtain ⟨a, e, _⟩ := hx; cases e⟩, n.le.none hb, fun hx => n.own.live b hx hb, fun hx => (by obtain ⟨a, e, _⟩ := hx; cases e), fun x _ hx => by obtain ⟨a, e, _⟩ := hx; cases e⟩

theorem parkC_len (w sz : Int) (cs : List Int) : (parkC w sz cs).length ≤ cs.length + 66 := by
  unfold parkC
  split
  · omega
  · split
    · omega
    · rw [List.length_append, List.length_replicate]; omega
theorem parkL_len (w sz : Int) (cs : List Int) (lg : List Acc) (who : Int) : (parkL w sz cs lg who).length ≤ lg.length + 1 := by
  unfold parkL
  split
  · omega
  · split
    · omega
    · simp


end Go.Mx
