/-
  DequeNew: a memory that refuses; the law in plain Lean.
-/
import Derived.Test.YtppehoailhjdfaaMxDa
set_option linter.unusedVariables false
set_option linter.unusedSimpArgs false
set_option linter.unusedSectionVars false
namespace Go.Mx


abbrev KDn : Kd := .pair .ptr (.pair ki (.pair ki .nil))
/-- A refusing memory over an arena: it lets n accesses, it was asked for k. -/
structure DnS (h0 h : Heap) (d b : Nat) (c l : Sl) (sz n k : Int) (cs : List Int) (lg : List Acc) : Prop where
  ar : Ar h0 h b c l sz cs lg 0 true
  obj : Obj h d KDn (some (ptr b), (n, (k, ())))
  nd : h0 d = none
  out : ¬ fpA b c l d

theorem refuses_spec {h0 h : Heap} {d b : Nat} {c l : Sl} {sz n k : Int} {cs : List Int} {lg : List Acc} (o : DnS h0 h d b c l sz n k cs lg) (k0 : 0 ≤ k) (k1 : k ≤ 100) {Q : Bool → Heap → Prop}
    (hQ : ∀ h', DnS h0 h' d b c l sz n (k + 1) cs lg → Q (decide (n < k + 1)) h') : law3_Deny_refuses.M (some (ptr d)) h Q := by
  have w : w64 (k + 1) = k + 1 := by rw [w64_of] <;> omega
  refine o.obj.ld (kf := ki) (y := k) (off := 2) ⟨[.pointer (some (ptr b)), .int .i64 n], _, rfl, rfl⟩ ?_
  simp only [deref]
  rw [w]
  refine o.obj.st (kf := ki) (v := k + 1) (off := 2) (x' := (some (ptr b), (n, (k + 1, ())))) rfl (by decide) rfl fun h1 o1 x1 => ?_
  have a1 : Ar h0 h1 b c l sz cs lg 0 true := o.ar.ext x1 (fun x p q => by subst q; exact o.out p) (fun x q => by subst q; exact o.nd)
  refine o1.ld (kf := ki) (y := k + 1) (off := 2) ⟨[.pointer (some (ptr b)), .int .i64 n], _, rfl, rfl⟩ ?_
  refine o1.ld (kf := ki) (y := n) (off := 1) ⟨[.pointer (some (ptr b))], _, rfl, rfl⟩ ?_
  exact hQ h1 ⟨a1, o1, o.nd, o.out⟩

section
variable {h0 h : Heap} {d b : Nat} {c l : Sl} {sz n k : Int} {cs : List Int} {lg : List Acc} (o : DnS h0 h d b c l sz n k cs lg) (k0 : 0 ≤ k) (k1 : k ≤ 100) (hl : lg.length ≤ 1000000)
  {c1 : Option Addr → Heap → (Bool → Heap → Prop) → Prop} (i1 : ∀ {a h Q}, law3_Deny_refuses.M a h Q → c1 a h Q)
include o k0 k1 hl i1
theorem dnRes_spec {c2 : Option Addr → Int → Heap → (Den K2 → Heap → Prop) → Prop} {m : Int} (m0 : 1 ≤ m) (m1 : m ≤ sz - (cs.length : Int)) (hf : (cs.length : Int) ≤ sz) (hz : sz ≤ 1048576)
    (i2 : ∀ {h : Heap} {Q}, Ar h0 h b c l sz cs lg 0 true → (∀ c' l' h2, Ar h0 h2 b c' l' sz (cs ++ List.replicate m.toNat 0) (wl true lg (0, (4, ((cs.length : Int), (m, (0, (true, ()))))))) 0 true → Step (fpA b c l) (fpA b c' l') h h2 → Q ((cs.length : Int), (0, ())) h2) → c2 (some (ptr b)) m h Q)
    {Q : Den K2 → Heap → Prop} (hR : n < k + 1 → ∀ h', DnS h0 h' d b c l sz n (k + 1) cs lg → Q (0, (77, ())) h')
    (hQ : ¬ n < k + 1 → ∀ c' l' lg' h', lg'.length ≤ lg.length + 1 → DnS h0 h' d b c' l' sz n (k + 1) (cs ++ List.replicate m.toNat 0) lg' → Q ((cs.length : Int), (0, ())) h') : law3_Deny_Reserve.M c1 c2 (some (ptr d)) m h Q := by
  refine i1 (refuses_spec o k0 k1 fun h1 o1 => ⟨fun e => hR (of_decide_eq_true e) h1 o1, fun e => ?_⟩)
  refine o1.obj.ld (kf := .ptr) (y := some (ptr b)) (off := 0) ⟨[], _, rfl, rfl⟩ ?_
  refine i2 o1.ar fun c' l' h2 a2 s2 => ?_
  have nd : ¬ fpA b c' l' d := fun p => by
    rcases s2.2 d p with q | q
    · exact o1.out q
    · exact o1.obj.live q
  exact hQ (of_decide_eq_false e) c' l' _ h2 (by simp [wl]) ⟨a2, o1.obj.ext s2.1 o1.out, o1.nd, nd⟩
theorem dnSto_spec {c2 : Option Addr → Int → Int → Heap → (Int → Heap → Prop) → Prop} {addr x : Int} (m0 : 0 ≤ addr) (m1 : addr < (cs.length : Int))
    (i2 : ∀ {h : Heap} {Q}, Ar h0 h b c l sz cs lg 0 true → (∀ l' h2, Ar h0 h2 b c l' sz (cs.set addr.toNat x) (wl true lg (0, (1, (addr, (x, (0, (true, ()))))))) 0 true → Step (fpA b c l) (fpA b c l') h h2 → Q 0 h2) → c2 (some (ptr b)) addr x h Q)
    {Q : Int → Heap → Prop} (hR : n < k + 1 → ∀ h', DnS h0 h' d b c l sz n (k + 1) cs lg → Q 77 h')
    (hQ : ¬ n < k + 1 → ∀ l' lg' h', lg'.length ≤ lg.length + 1 → DnS h0 h' d b c l' sz n (k + 1) (cs.set addr.toNat x) lg' → Q 0 h') : law3_Deny_Store.M c1 c2 (some (ptr d)) addr x h Q := by
  refine i1 (refuses_spec o k0 k1 fun h1 o1 => ⟨fun e => hR (of_decide_eq_true e) h1 o1, fun e => ?_⟩)
  refine o1.obj.ld (kf := .ptr) (y := some (ptr b)) (off := 0) ⟨[], _, rfl, rfl⟩ ?_
  refine i2 o1.ar fun l' h2 a2 s2 => ?_
  have nd : ¬ fpA b c l' d := fun p => by
    rcases s2.2 d p with q | q
    · exact o1.out q
    · exact o1.obj.live q
  exact hQ (of_decide_eq_false e) l' _ h2 (by simp [wl]) ⟨a2, o1.obj.ext s2.1 o1.out, o1.nd, nd⟩
end



theorem dqC_len (sz low most : Int) (cs : List Int) (h : (cs.length : Int) ≤ sz) (h0 : 0 ≤ sz) : ((dqC sz low most cs).length : Int) ≤ sz := by
  unfold dqC
  split
  · exact h
  · split
    · exact h
    · rename_i p q
      have := Classical.not_not.1 p
      unfold laid
      rw [List.length_set, List.length_set, List.length_append, List.length_replicate]
      have := this.1
      omega
theorem dqL_len (sz low most : Int) (cs : List Int) (lg : List Acc) (who : Int) : (dqL sz low most cs lg who).length ≤ lg.length + 3 := by
  unfold dqL
  split
  · omega
  · split
    · omega
    · simp [laidL]



end Go.Mx
