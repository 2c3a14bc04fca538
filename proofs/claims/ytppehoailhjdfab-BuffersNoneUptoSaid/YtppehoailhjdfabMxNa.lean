/-
  BuffersNone: what nil and zero memories and views come to.
-/
import Derived.Test.YtppehoailhjdfabMxOb
import Derived.Test.YtppehoailhjdfabMd
set_option linter.unusedVariables false
set_option linter.unusedSimpArgs false
namespace Go.Mx

/-- No memory, or one that no New made. -/
def NoM (h : Heap) (m : Option Addr) : Prop := m = none ∨ ∃ b, m = some (ptr b) ∧ Obj h b kbuffersMemory (none, (0, (0, ((fun _ => Sl.none), ((fun _ => ((none, (0, ())), ())), ())))))
def NoV (h : Heap) (v : Option Addr) : Prop := v = none ∨ ∃ b, v = some (ptr b) ∧ Obj h b kbuffersView ((none, (0, ())), ())

theorem noM_has {h : Heap} {m : Option Addr} (n : NoM h m) {Q : Bool → Heap → Prop} (hQ : Q false h) : buffers_Memory_has.M m 0 h Q := by
  rcases n with rfl | ⟨b, rfl, o⟩
  · exact ⟨fun e => (by cases e), fun _ => hQ⟩
  · refine ⟨fun _ => ⟨fun _ => ?_, fun e => (by cases e)⟩, fun e => (by cases e)⟩
    exact o.ld (y := (0 : Int)) (kf := ki) (off := 1) (K := fun t : Int => Q (decide ((0 : Int) < t)) h) ⟨[.pointer none], _, rfl, rfl⟩ hQ
theorem noM_arena {h : Heap} {m : Option Addr} (n : NoM h m) {Q : Sl → Heap → Prop} {R : Option Addr → Prop} (hQ : Q ⟨none, 0, 0⟩ h) (hR : R none) : (Option.isNone m = true → Q ⟨none, 0, 0⟩ h) ∧ (Option.isNone m = false → deref m fun a => ld (.ptr : Kd) h (a.add 0) R) := by
  rcases n with rfl | ⟨b, rfl, o⟩
  · exact ⟨fun _ => hQ, fun e => (by cases e)⟩
  · exact ⟨fun e => (by cases e), fun _ => o.ld (y := (none : Option Addr)) ⟨[], _, rfl, rfl⟩ hR⟩

theorem none_spec {h : Heap} {m : Option Addr} (n : NoM h m) {c0 : Option Addr → Int → Heap → (Bool → Heap → Prop) → Prop} {c1 : Option Addr → Int → Heap → (Option Addr → Heap → Prop) → Prop} {c2 : Option Addr → Int → Heap → (Bool → Heap → Prop) → Prop} {c3 : Option Addr → Int → Heap → (Sl → Heap → Prop) → Prop} {c4 c5 c8 c9 : Option Addr → Heap → (Sl → Heap → Prop) → Prop}
    {c6 : Option Addr → Int → Heap → (Unit → Heap → Prop) → Prop} {c7 : Option Addr → Int → Int → Heap → (Int → Heap → Prop) → Prop}
    (i0 : ∀ {a x h Q}, buffers_Memory_has.M a x h Q → c0 a x h Q) (i1 : ∀ {a x h Q}, buffers_Memory_View.M c0 a x h Q → c1 a x h Q) (i2 : ∀ {a x h Q}, buffers_Memory_Flush.M c0 c6 c7 a x h Q → c2 a x h Q) (i3 : ∀ {a x h Q}, buffers_Memory_Waiting.M c0 a x h Q → c3 a x h Q)
    (i4 : ∀ {a h Q}, buffers_Memory_Cells.M c8 a h Q → c4 a h Q) (i5 : ∀ {a h Q}, buffers_Memory_Log.M c9 a h Q → c5 a h Q) (i8 : ∀ {a h Q}, cells_Arena_Cells.M a h Q → c8 a h Q) (i9 : ∀ {a h Q}, cells_Arena_Log.M a h Q → c9 a h Q)
    {Q : Bool → Heap → Prop} (hQ : Q true h) : law21_none.M c1 c2 c3 c4 c5 m h Q := by
  refine i1 (i0 (noM_has n ⟨fun _ => ?_, fun e => (by cases e)⟩))
  refine ⟨fun _ => ?_, fun e => (by cases e)⟩
  refine i2 (i0 (noM_has n ⟨fun _ => ⟨fun _ => ?_, fun e => (by cases e)⟩, fun e => (by cases e)⟩))
  refine ⟨fun _ => ?_, fun e => (by cases e)⟩
  refine i3 (i0 (noM_has n ⟨fun _ => ?_, fun e => (by cases e)⟩))
  refine ⟨fun _ => ?_, fun e => (by cases e)⟩
  have last : (Q (decide ((0 : Int) = 0)) h) := hQ
  have log : c5 m h fun r h12 => Q (decide ((r.len : Int) = 0)) h12 := i5 (noM_arena (Q := fun r h12 => Q (decide ((r.len : Int) = 0)) h12) (R := fun t => c9 t h fun r h12 => Q (decide ((r.len : Int) = 0)) h12) n last (i9 ⟨fun _ => last, fun e => (by cases e)⟩))
  have fin : ((decide (((⟨none, 0, 0⟩ : Sl).len : Int) = 0)) = true → c5 m h fun r h12 => Q (decide ((r.len : Int) = 0)) h12) ∧ ((decide (((⟨none, 0, 0⟩ : Sl).len : Int) = 0)) = false → Q false h) := ⟨fun _ => log, fun e => (by cases e)⟩
  let F : Sl → Heap → Prop := fun r h12 => ((decide ((r.len : Int) = 0)) = true → c5 m h12 fun r h12 => Q (decide ((r.len : Int) = 0)) h12) ∧ ((decide ((r.len : Int) = 0)) = false → Q false h12)
  exact i4 (noM_arena (Q := F) (R := fun t => c8 t h F) n fin (i8 ⟨fun _ => fin, fun e => (by cases e)⟩))

theorem noV_none {h : Heap} {v : Option Addr} (n : NoV h v) {c1 : Option Addr → Heap → (Int → Heap → Prop) → Prop} {Q : Bool → Heap → Prop} (hQ : Q true h) : buffers_View_none.M c1 v 0 h Q := by
  rcases n with rfl | ⟨b, rfl, o⟩
  · exact ⟨fun _ => hQ, fun e => (by cases e)⟩
  · refine ⟨fun e => (by cases e), fun _ => ?_⟩
    exact o.ld (y := (none : Option Addr)) (off := 0) ⟨[], _, rfl, rfl⟩ ⟨fun _ => hQ, fun e => (by cases e)⟩


theorem bare_spec {h : Heap} {v : Option Addr} (n : NoV h v) {cm cs : Option Addr → Heap → (Int → Heap → Prop) → Prop} {cn : Option Addr → Int → Heap → (Bool → Heap → Prop) → Prop} {cd : Option Addr → Int → Heap → (Unit → Heap → Prop) → Prop}
    {cp : Den kbuffersplace → Heap → (Option Addr → Heap → Prop) → Prop} {al : Option Addr → Int → Heap → (Den kapiWait → Heap → Prop) → Prop} {ac : Option Addr → Int → Int → Int → Heap → ((Bool × (Int × Unit)) → Heap → Prop) → Prop} {aa : Option Addr → Int → Int → Heap → (Den kapiWait → Heap → Prop) → Prop} {ar : Option Addr → Int → Heap → (Den kapiWait → Heap → Prop) → Prop}
    {cf : Option Addr → Int → Heap → (Bool → Heap → Prop) → Prop}
    {c1 : Option Addr → Heap → (Unit → Heap → Prop) → Prop} {c2 : Option Addr → Int → Heap → (Den kapiWait → Heap → Prop) → Prop} {c3 : Option Addr → Int → Int → Heap → (Int → Heap → Prop) → Prop} {c4 : Option Addr → Int → Int → Int → Heap → ((Bool × (Int × Unit)) → Heap → Prop) → Prop} {c5 : Option Addr → Int → Int → Heap → (Den kapiWait → Heap → Prop) → Prop} {c6 : Option Addr → Int → Heap → (Den kapiWait → Heap → Prop) → Prop}
    (i0 : ∀ {a x h Q}, buffers_View_none.M cm a x h Q → cn a x h Q) (i1 : ∀ {a h Q}, buffers_View_Fence.M cd a h Q → c1 a h Q) (i2 : ∀ {a x h Q}, buffers_View_Load.M cn cp al a x h Q → c2 a x h Q) (i3 : ∀ {a x y h Q}, buffers_View_Store.M cn cf a x y h Q → c3 a x y h Q)
    (i4 : ∀ {a x y z h Q}, buffers_View_CAS.M cn cd cp ac a x y z h Q → c4 a x y z h Q) (i5 : ∀ {a x y h Q}, buffers_View_Add.M cn cd cp aa a x y h Q → c5 a x y h Q) (i6 : ∀ {a x h Q}, buffers_View_Reserve.M cs cm cd cp ar a x h Q → c6 a x h Q)
    {Q : Bool → Heap → Prop} (hQ : Q true h) : law21_bare.M c1 c2 c3 c4 c5 c6 v h Q := by
  have fence : ∀ {R : Unit → Heap → Prop}, R () h → buffers_View_Fence.M cd v h R := by
    intro R hR
    rcases n with rfl | ⟨b, rfl, o⟩
    · exact ⟨fun e => (by cases e), fun _ => ⟨fun e => (by cases e), fun _ => hR⟩⟩
    · refine ⟨fun _ => ?_, fun e => (by cases e)⟩
      exact o.ld (y := (none : Option Addr)) (off := 0) (kf := .ptr) (K := fun t => buffers_View_Fence.j1 cd (some (ptr b)) R ((Option.isSome t), ()) h) ⟨[], _, rfl, rfl⟩ ⟨fun e => (by cases e), fun _ => hR⟩
  have res : ∀ {R : Den kapiWait → Heap → Prop}, R (0, 22, ()) h → buffers_View_Reserve.M cs cm cd cp ar v 1 h R := by
    intro R hR
    refine ⟨fun e => (by cases e), fun _ => ?_⟩
    rcases n with rfl | ⟨b, rfl, o⟩
    · exact ⟨fun _ => ⟨fun _ => hR, fun e => (by cases e)⟩, fun e => (by cases e)⟩
    · refine ⟨fun e => (by cases e), fun _ => ?_⟩
      exact o.ld (y := (none : Option Addr)) (off := 0) (kf := .ptr) ⟨[], _, rfl, rfl⟩ ⟨fun _ => ⟨fun _ => hR, fun e => (by cases e)⟩, fun e => (by cases e)⟩
  refine i1 (fence (i2 (i0 (noV_none n ⟨fun _ => i3 (i0 (noV_none n ⟨fun _ => i4 (i0 (noV_none n ⟨fun _ => i5 (i0 (noV_none n ⟨fun _ => i6 (res (i6 ⟨fun _ => ?_, fun e => (by cases e)⟩)), fun e => (by cases e)⟩)), fun e => (by cases e)⟩)), fun e => (by cases e)⟩)), fun e => (by cases e)⟩))))
  refine ⟨fun e => (by cases e), fun _ => ⟨fun e => (by cases e), fun _ => ⟨fun e => (by cases e), fun _ => ⟨fun e => (by cases e), fun _ => ⟨fun e => (by cases e), fun _ => ?_⟩⟩⟩⟩⟩
  exact ⟨fun _ => ⟨fun _ => ⟨fun _ => ⟨fun _ => ⟨fun _ => hQ, fun e => (by cases e)⟩, fun e => (by cases e)⟩, fun e => (by cases e)⟩, fun e => (by cases e)⟩, fun e => (by cases e)⟩

theorem buffersNone_spec {h0 : Heap} {c1 c2 : Option Addr → Heap → (Bool → Heap → Prop) → Prop} (i1 : ∀ {m h Q}, NoM h m → Q true h → c1 m h Q) (i2 : ∀ {m h Q}, NoV h m → Q true h → c2 m h Q) {Q : Bool → Heap → Prop} (hQ : ∀ h', le h0 h' → Q true h') : law21_BuffersNone.M c1 c2 h0 Q := by
  refine i1 (.inl rfl) ⟨fun _ => Obj.new fun b h1 hb o l => ?_, fun e => (by cases e)⟩
  refine i1 (.inr ⟨b, rfl, o⟩) ⟨fun _ => ?_, fun e => (by cases e)⟩
  refine i2 (.inl rfl) ⟨fun _ => Obj.new fun c h2 hc o2 l2 => ?_, fun e => (by cases e)⟩
  exact i2 (.inr ⟨c, rfl, o2⟩) (hQ _ (l.trans l2))

end Go.Mx
