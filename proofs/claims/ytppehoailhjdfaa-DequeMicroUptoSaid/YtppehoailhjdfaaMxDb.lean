/-
  DequeNew: a memory that refuses; the law in plain Lean.
-/
import Derived.Test.YtppehoailhjdfaaMxDa
set_option linter.unusedVariables false
set_option linter.unusedSimpArgs false
set_option linter.unusedSectionVars false
namespace Go.Mx

theorem mod3_spec {x n : Int} (h0 : 0 < n) (h1 : n ≤ 1000000) {h : Heap} {Q : Int → Heap → Prop} (hQ : ∀ r : Int, 0 ≤ r → r < n → Q r h) : law3_mod.M x n h Q :=
  show law9_mod.M x n h Q from mod_spec h0 h1 hQ
theorem sameInts3_spec {a b : Sl} {h : Heap} {xs : List Int} (ha : Arr h ki a xs) (hb : Arr h ki b xs) (hn : xs.length ≤ 2000000000) {Q : Bool → Heap → Prop} (hQ : Q true h) : law3_sameInts.M a b h Q :=
  show law9_sameInts.M a b h Q from sameInts_spec ha hb hn hQ
theorem sameLog3_spec {a b : Sl} {h : Heap} {xs : List Acc} (ha : Arr h KAcc a xs) (hb : Arr h KAcc b xs) (hn : xs.length ≤ 2000000000) {Q : Bool → Heap → Prop} (hQ : Q true h) : law3_sameLog.M a b h Q :=
  show law9_sameLog.M a b h Q from sameLog_spec ha hb hn hQ

abbrev KDn : Kd := .pair .ptr (.pair ki (.pair ki .nil))
/-- A refusing memory over an arena: it lets n accesses, it was asked for k. -/
structure DnS (h0 h : Heap) (d b : Nat) (c l : Sl) (sz n k : Int) (cs : List Int) (lg : List Acc) : Prop where
  ar : Ar h0 h b c l sz cs lg 0 true
  obj : Obj h d KDn (some (ptr b), (n, (k, ())))
  nd : h0 d = none
  out : ¬ fpA b c l d

theorem refuses_spec {h0 h : Heap} {d b : Nat} {c l : Sl} {sz n k : Int} {cs : List Int} {lg : List Acc} (o : DnS h0 h d b c l sz n k cs lg) (k0 : 0 ≤ k) (k1 : k ≤ 100) {Q : Bool → Heap → Prop}
    (hQ : ∀ h', DnS h0 h' d b c l sz n (k + 1) cs lg → Q (decide (n < k + 1)) h') : law3_Deny_refuses.M (some (ptr d)) h Q := by
  have w : w64 (k + 1) = k + 1 := by rw [w64_of] <;> omega
  refine o.obj.ld (kf := ki) (y := k) (off := 2) ⟨[.pointer (some (ptr b)), .int .i64 n], _, rfl, rfl⟩ ?_
  simp only [deref]
  rw [w]
  refine o.obj.st (kf := ki) (v := k + 1) (off := 2) (x' := (some (ptr b), (n, (k + 1, ())))) rfl (by decide) rfl fun h1 o1 x1 => ?_
  have a1 : Ar h0 h1 b c l sz cs lg 0 true := o.ar.ext x1 (fun x p q => by subst q; exact o.out p) (fun x q => by subst q; exact o.nd)
  refine o1.ld (kf := ki) (y := k + 1) (off := 2) ⟨[.pointer (some (ptr b)), .int .i64 n], _, rfl, rfl⟩ ?_
  refine o1.ld (kf := ki) (y := n) (off := 1) ⟨[.pointer (some (ptr b))], _, rfl, rfl⟩ ?_
  exact hQ h1 ⟨a1, o1, o.nd, o.out⟩

section
variable {h0 h : Heap} {d b : Nat} {c l : Sl} {sz n k : Int} {cs : List Int} {lg : List Acc} (o : DnS h0 h d b c l sz n k cs lg) (k0 : 0 ≤ k) (k1 : k ≤ 100) (hl : lg.length ≤ 1000000)
  {c1 : Option Addr → Heap → (Bool → Heap → Prop) → Prop} (i1 : ∀ {a h Q}, law3_Deny_refuses.M a h Q → c1 a h Q)
include o k0 k1 hl i1
theorem dnRes_spec {c2 : Option Addr → Int → Heap → (Den K2 → Heap → Prop) → Prop} {m : Int} (m0 : 1 ≤ m) (m1 : m ≤ sz - (cs.length : Int)) (hf : (cs.length : Int) ≤ sz) (hz : sz ≤ 1048576)
    (i2 : ∀ {h : Heap} {Q}, Ar h0 h b c l sz cs lg 0 true → (∀ c' l' h2, Ar h0 h2 b c' l' sz (cs ++ List.replicate m.toNat 0) (wl true lg (0, (4, ((cs.length : Int), (m, (0, (true, ()))))))) 0 true → Step (fpA b c l) (fpA b c' l') h h2 → Q ((cs.length : Int), (0, ())) h2) → c2 (some (ptr b)) m h Q)
    {Q : Den K2 → Heap → Prop} (hR : n < k + 1 → ∀ h', DnS h0 h' d b c l sz n (k + 1) cs lg → Q (0, (77, ())) h')
    (hQ : ¬ n < k + 1 → ∀ c' l' lg' h', lg'.length ≤ lg.length + 1 → DnS h0 h' d b c' l' sz n (k + 1) (cs ++ List.replicate m.toNat 0) lg' → Q ((cs.length : Int), (0, ())) h') : law3_Deny_Reserve.M c1 c2 (some (ptr d)) m h Q := by
  refine i1 (refuses_spec o k0 k1 fun h1 o1 => ⟨fun e => hR (of_decide_eq_true e) h1 o1, fun e => ?_⟩)
  refine o1.obj.ld (kf := .ptr) (y := some (ptr b)) (off := 0) ⟨[], _, rfl, rfl⟩ ?_
  refine i2 o1.ar fun c' l' h2 a2 s2 => ?_
  have nd : ¬ fpA b c' l' d := fun p => by
    rcases s2.2 d p with q | q
    · exact o1.out q
    · exact o1.obj.live q
  exact hQ (of_decide_eq_false e) c' l' _ h2 (by simp [wl]) ⟨a2, o1.obj.ext s2.1 o1.out, o1.nd, nd⟩
theorem dnSto_spec {c2 : Option Addr → Int → Int → Heap → (Int → Heap → Prop) → Prop} {addr x : Int} (m0 : 0 ≤ addr) (m1 : addr < (cs.length : Int))
    (i2 : ∀ {h : Heap} {Q}, Ar h0 h b c l sz cs lg 0 true → (∀ l' h2, Ar h0 h2 b c l' sz (cs.set addr.toNat x) (wl true lg (0, (1, (addr, (x, (0, (true, ()))))))) 0 true → Step (fpA b c l) (fpA b c l') h h2 → Q 0 h2) → c2 (some (ptr b)) addr x h Q)
    {Q : Int → Heap → Prop} (hR : n < k + 1 → ∀ h', DnS h0 h' d b c l sz n (k + 1) cs lg → Q 77 h')
    (hQ : ¬ n < k + 1 → ∀ l' lg' h', lg'.length ≤ lg.length + 1 → DnS h0 h' d b c l' sz n (k + 1) (cs.set addr.toNat x) lg' → Q 0 h') : law3_Deny_Store.M c1 c2 (some (ptr d)) addr x h Q := by
  refine i1 (refuses_spec o k0 k1 fun h1 o1 => ⟨fun e => hR (of_decide_eq_true e) h1 o1, fun e => ?_⟩)
  refine o1.obj.ld (kf := .ptr) (y := some (ptr b)) (off := 0) ⟨[], _, rfl, rfl⟩ ?_
  refine i2 o1.ar fun l' h2 a2 s2 => ?_
  have nd : ¬ fpA b c l' d := fun p => by
    rcases s2.2 d p with q | q
    · exact o1.out q
    · exact o1.obj.live q
  exact hQ (of_decide_eq_false e) l' _ h2 (by simp [wl]) ⟨a2, o1.obj.ext s2.1 o1.out, o1.nd, nd⟩
end

/-- New over a memory that lets n accesses. -/
theorem deny_spec {h0 h : Heap} {d b : Nat} {c0 l0 : Sl} {n low : Int} (n0 : 0 ≤ n) (n3 : n ≤ 3) (q1 : 1 ≤ low) (q2 : low ≤ 5) (o : DnS h0 h d b c0 l0 40 n 0 [] [])
    {c1 : Int → Int → Heap → (Bool → Heap → Prop) → Prop} {c2 : Value → Int → Heap → (Den K2 → Heap → Prop) → Prop} {c3 : Value → Int → Int → Heap → (Int → Heap → Prop) → Prop} {v : Value} (hv : isI v) (hn : isNilI v = false) (i1 : ∀ {a b h Q}, deque_capsOK.M a b h Q → c1 a b h Q)
    (i2 : ∀ {c l : Sl} {cs : List Int} {lg : List Acc} {k m : Int} {h : Heap} {Q}, DnS h0 h d b c l 40 n k cs lg → 0 ≤ k → k ≤ 100 → lg.length ≤ 1000000 → 1 ≤ m → m ≤ 40 - (cs.length : Int) → (cs.length : Int) ≤ 40 → (n < k + 1 → ∀ h', DnS h0 h' d b c l 40 n (k + 1) cs lg → Q (0, (77, ())) h') →
      (¬ n < k + 1 → ∀ c' l' lg' h', lg'.length ≤ lg.length + 1 → DnS h0 h' d b c' l' 40 n (k + 1) (cs ++ List.replicate m.toNat 0) lg' → Q ((cs.length : Int), (0, ())) h') → c2 v m h Q)
    (i3 : ∀ {c l : Sl} {cs : List Int} {lg : List Acc} {k addr x : Int} {h : Heap} {Q}, DnS h0 h d b c l 40 n k cs lg → 0 ≤ k → k ≤ 100 → lg.length ≤ 1000000 → 0 ≤ addr → addr < (cs.length : Int) → (n < k + 1 → ∀ h', DnS h0 h' d b c l 40 n (k + 1) cs lg → Q 77 h') →
      (¬ n < k + 1 → ∀ l' lg' h', lg'.length ≤ lg.length + 1 → DnS h0 h' d b c l' 40 n (k + 1) (cs.set addr.toNat x) lg' → Q 0 h') → c3 v addr x h Q)
    {Q : (Den K2 × (Int × Unit)) → Heap → Prop} (hE : n < 3 → ∀ h', le h0 h' → Obj h' d KDn (some (ptr b), (n, (n + 1, ()))) → Q ((0, (0, ())), (77, ())) h') (hQ : n = 3 → ∀ h', le h0 h' → Obj h' d KDn (some (ptr b), (n, (3, ()))) → Q ((0, (2 * low, ())), (0, ())) h') :
    deque_New.M c1 c2 c3 v low (2 * low) h Q := by
  refine ⟨hv, fun e => (by rw [hn] at e; cases e), fun _ => i1 (caps_spec (fun q => ⟨fun e => (by cases e), fun _ => ?_⟩) (fun q => absurd ⟨q1, by omega, by omega⟩ q))⟩
  have w1 : w64 (4 + low) = 4 + low := by rw [w64_of] <;> omega
  rw [w1]
  refine i2 o (by omega) (by omega) (by simp) (by omega) (by simp; omega) (by simp) (fun r h1 o1 => ⟨fun _ => ?_, fun e => (by cases e)⟩) fun r c' l' lg' h1 hl1 o1 => ⟨fun e => (by cases e), fun _ => ?_⟩
  · obtain rfl : n = 0 := by omega
    exact hE (by omega) h1 o1.ar.le o1.obj
  have hlen : (([] ++ List.replicate (4 + low).toNat (0 : Int) : List Int).length : Int) = 4 + low := by simp; omega
  have w2 : w64 ((([] : List Int).length : Int) + 2) = 2 := by rw [w64_of] <;> simp
  have w3 : w64 ((([] : List Int).length : Int) + 3) = 3 := by rw [w64_of] <;> simp
  dsimp only
  rw [w2, w3]
  simp only [List.length_nil] at hl1
  refine i3 o1 (by omega) (by omega) (by omega) (by omega) (by omega) (fun r h2 o2 => ⟨fun _ => ?_, fun e => (by cases e)⟩) fun r2 l2 lg2 h2 hl2 o2 => ⟨fun e => (by cases e), fun _ => ?_⟩
  · obtain rfl : n = 1 := by omega
    exact hE (by omega) h2 o2.ar.le o2.obj
  refine i3 o2 (by omega) (by omega) (by omega) (by omega) (by rw [List.length_set]; omega) (fun r h3 o3 => ⟨fun _ => ?_, fun e => (by cases e)⟩) fun r3 l3 lg3 h3 hl3 o3 => ⟨fun e => (by cases e), fun _ => ?_⟩
  · obtain rfl : n = 2 := by omega
    exact hE (by omega) h3 o3.ar.le o3.obj
  · obtain rfl : n = 3 := by omega
    exact hQ rfl h3 o3.ar.le o3.obj

theorem stops_spec {h0 : Heap} {first : Int} {c1 : Int → Int → Heap → (Int → Heap → Prop) → Prop} {c2 : Int → Sl → Heap → ((Option Addr × (Bool × Unit)) → Heap → Prop) → Prop} {c3 : Value → Int → Int → Heap → ((Den K2 × (Int × Unit)) → Heap → Prop) → Prop}
    (i1 : ∀ {x n h Q}, law3_mod.M x n h Q → c1 x n h Q)
    (i2 : ∀ {h : Heap} {Q}, (∀ b c l h', Ar h h' b c l 40 [] [] 0 true → Q (some (ptr b), (true, ())) h') → c2 40 ⟨none, 0, 0⟩ h Q)
    (i3 : ∀ {h0 h : Heap} {d b : Nat} {c l : Sl} {n low : Int} {Q}, 0 ≤ n → n ≤ 3 → 1 ≤ low → low ≤ 5 → DnS h0 h d b c l 40 n 0 [] [] →
      (n < 3 → ∀ h', le h0 h' → Obj h' d KDn (some (ptr b), (n, (n + 1, ()))) → Q ((0, (0, ())), (77, ())) h') → (n = 3 → ∀ h', le h0 h' → Obj h' d KDn (some (ptr b), (n, (3, ()))) → Q ((0, (2 * low, ())), (0, ())) h') → c3 (.iface 131 (.pointer (some (ptr d)))) low (2 * low) h Q)
    {Q : Bool → Heap → Prop} (hQ : ∀ h', le h0 h' → Q true h') : law3_stops.M c1 c2 c3 first h0 Q := by
  refine i1 (mod3_spec (by decide) (by decide) fun r q0 q1 => ?_)
  have w1 : w64 (1 + r) = 1 + r := by rw [w64_of] <;> omega
  have w2 : w64 (2 * (1 + r)) = 2 * (1 + r) := by rw [w64_of] <;> omega
  refine Loop.up 4 (fun s => s.1) (fun i s k => le h0 k) rfl (le.refl _) ?_
  rintro i ⟨j, u⟩ k go hi hc hle hgo
  dsimp only at hc; subst hc
  refine ⟨fun e => ?_, fun e => hQ k hle⟩
  have e : (i : Int) < 4 := of_decide_eq_true e
  refine i2 fun b c l h1 o1 => ⟨fun e => (by cases e), fun _ => ?_⟩
  show new h1 (KDn.cells (some (ptr b), ((i : Int), (0, ())))) _
  refine Obj.new fun d h2 hd o2 l2 => ?_
  have nd : ¬ fpA b c l d := fun q => o1.live q hd
  have ds : DnS k h2 d b c l 40 (i : Int) 0 [] [] := ⟨o1.more l2, o2, o1.le.none hd, nd⟩
  dsimp only
  rw [w1, w2]
  have w3 : w64 ((i : Int) + 1) = (i : Int) + 1 := by rw [w64_of] <;> omega
  have nx : ∀ {h' : Heap}, le k h' → law3_stops.j2 Q go ((i : Int), u) (false, ()) h' := fun l' => ⟨fun e => (by cases e), fun _ => hgo (by omega) _ _ (by show w64 ((i : Int) + 1) = _; rw [w3]; rfl) (hle.trans l')⟩
  refine i3 (by omega) (by omega) (by omega) (by omega) ds (fun hn h' l' ob => ?_) (fun hn h' l' ob => ?_)
  · refine ⟨fun _ => ⟨fun e => (by cases e), fun _ => ⟨fun e => (by cases e), fun _ => ⟨fun e => (by cases e), fun _ => ?_⟩⟩⟩, fun e => absurd hn (of_decide_eq_false e)⟩
    refine ob.ld (kf := ki) (y := (i : Int) + 1) (off := 2) ⟨[.pointer (some (ptr b)), .int .i64 (i : Int)], _, rfl, rfl⟩ ?_
    dsimp only
    rw [w3]
    refine ⟨fun e => absurd rfl (of_decide_eq_true e), fun _ => ⟨fun e => absurd (show (i : Int) = 3 from of_decide_eq_true e) (by omega), fun _ => nx l'⟩⟩
  · refine ⟨fun e => absurd (show (i : Int) < 3 from of_decide_eq_true e) (by omega), fun _ => ⟨fun _ => ⟨fun e => (by cases e), fun _ => ⟨fun e => absurd rfl (of_decide_eq_true e), fun _ => ?_⟩⟩, fun e => absurd hn (of_decide_eq_false e)⟩⟩
    refine ob.ld (kf := ki) (y := (3 : Int)) (off := 2) ⟨[.pointer (some (ptr b)), .int .i64 (i : Int)], _, rfl, rfl⟩ ?_
    exact nx l'

theorem dqC_len (sz low most : Int) (cs : List Int) (h : (cs.length : Int) ≤ sz) (h0 : 0 ≤ sz) : ((dqC sz low most cs).length : Int) ≤ sz := by
  unfold dqC
  split
  · exact h
  · split
    · exact h
    · rename_i p q
      have := Classical.not_not.1 p
      unfold laid
      rw [List.length_set, List.length_set, List.length_append, List.length_replicate]
      have := this.1
      omega
theorem dqL_len (sz low most : Int) (cs : List Int) (lg : List Acc) (who : Int) : (dqL sz low most cs lg who).length ≤ lg.length + 3 := by
  unfold dqL
  split
  · omega
  · split
    · omega
    · simp [laidL]

theorem dequeNew_spec {h0 : Heap} {size first most : Int} {s : Sl} {bs : List Int} (ha : Arr h0 ki s bs) (hcap : s.len ≤ s.cap)
    {m1 : Int → Int → Heap → (Int → Heap → Prop) → Prop} {m2 : Int → Sl → Heap → ((Option Addr × (Bool × Unit)) → Heap → Prop) → Prop} {m3 : Value → Int → Int → Heap → ((Den K2 × (Int × Unit)) → Heap → Prop) → Prop} {m4 : Option Addr → Int → Int → Heap → ((Den K2 × (Int × Unit)) → Heap → Prop) → Prop}
    {m5 m7 : Option Addr → Heap → (Sl → Heap → Prop) → Prop} {m6 m8 : Sl → Sl → Heap → (Bool → Heap → Prop) → Prop} {m9 : Int → Heap → (Bool → Heap → Prop) → Prop} {m10 m11 : Int → Int → Heap → (Int → Heap → Prop) → Prop}
    (i1 : ∀ {x n h Q}, law3_mod.M x n h Q → m1 x n h Q)
    (i2 : ∀ {h : Heap} {size : Int} {s : Sl} {bs : List Int} {Q}, Arr h ki s bs → 0 ≤ size → size ≤ 1048576 → (bs.length : Int) ≤ size → (∀ b c l h', Ar h h' b c l size bs [] 0 true → Q (some (ptr b), (true, ())) h') → m2 size s h Q)
    (i3 : ∀ {h0 h : Heap} {b : Nat} {c l : Sl} {sz low most : Int} {cs : List Int} {Q}, Ar h0 h b c l sz cs [] 0 true → (cs.length : Int) ≤ sz → sz ≤ 1048576 → (∀ c' l' h', Ar h0 h' b c' l' sz (dqC sz low most cs) (dqL sz low most cs [] 0) 0 true → Step (fpA b c l) (fpA b c' l') h h' → Q (dqR sz low most cs) h') → m3 (.iface 24 (.pointer (some (ptr b)))) low most h Q)
    (i3' : ∀ {a w h Q}, Q ((0, (0, ())), (1, ())) h → m3 .nilIface a w h Q)
    (i4 : ∀ {h0 h : Heap} {b : Nat} {c l : Sl} {sz low most : Int} {cs : List Int} {Q}, MmS h0 h b c l sz cs [] 0 → (cs.length : Int) ≤ sz → sz ≤ 1048576 → (∀ c' l' h', MmS h0 h' b c' l' sz (dqC sz low most cs) (dqL sz low most cs [] 0) 0 → Step (fpA b c l) (fpA b c' l') h h' → Q (dqR sz low most cs) h') → m4 (some (ptr b)) low most h Q)
    (i5 : ∀ {a h Q}, cells_Arena_Cells.M a h Q → m5 a h Q) (i6 : ∀ {a b h Q}, law3_sameInts.M a b h Q → m6 a b h Q) (i7 : ∀ {a h Q}, cells_Arena_Log.M a h Q → m7 a h Q) (i8 : ∀ {a b h Q}, law3_sameLog.M a b h Q → m8 a b h Q)
    (i9 : ∀ {a h Q}, (∀ h', le h h' → Q true h') → m9 a h Q) (i10 : ∀ {a b h Q}, (CapE a b → Q (cellsOf a b) h) → (¬ CapE a b → Q 0 h) → m10 a b h Q) (i11 : ∀ {a b h Q}, (CapE a b → Q (cellsOf a b) h) → (¬ CapE a b → Q 0 h) → m11 a b h Q)
    {Q : Bool → Heap → Prop} (hQ : ∀ h', le h0 h' → Q true h') :
    law3_DequeNew.M m1 m2 m3 m4 m5 m6 m7 m8 m9 m10 m11 size s first most h0 Q := by
  refine i1 (mod3_spec (by decide) (by decide) fun r q0 q1 => ?_)
  have key : ∀ (t : Sl) (us : List Int), Arr h0 ki t us → (us.length : Int) ≤ r → law3_DequeNew.j7 m2 m3 m4 m5 m6 m7 m8 m9 m10 m11 first most Q r (t, ()) h0 := by
    intro t us hu hle
    have hul := hu.1
    refine i2 hu q0 (by omega) hle fun b c l h10 o => ⟨fun e => (by cases e), fun _ => ?_⟩
    refine New.mk0 fun p11 h12 n12 => n12.apps (hu.le (o.le.trans n12.le)) rfl rfl (by show (0 + t.len) * 8 ≤ _; omega) fun t13 h14 n14 => ?_
    rw [List.nil_append] at n14
    have n14' : New h0 h14 ki t13 us := n14.base o.le
    refine mems_new n14' fun b2 h16 hb2 l16 mo => ?_
    have o14 : Ar h0 h14 b c l r us [] 0 true := o.more n14.le
    have o16 : Ar h0 h16 b c l r us [] 0 true := o14.more l16
    have dj : ∀ x, fpA b c l x → ¬ fpA b2 t13 ⟨none, 0, 0⟩ x := fun x p q => by
      rcases q with q | q | q
      · subst q; exact o14.live p hb2
      · exact o.live p (n14.new x q)
      · obtain ⟨a, e, _⟩ := q; cases e
    refine i3 o16 hle (by omega) fun c' l' h18 o18 s18 => ?_
    have mo18 := mo.ext s18.1 (fun x p q => dj x q p) (fun x q => o16.fresh q)
    have dj2 : ∀ x, fpA b c' l' x → ¬ fpA b2 t13 ⟨none, 0, 0⟩ x := fun x p q => by
      rcases s18.2 x p with d | d
      · exact dj x d q
      · exact mo.live q d
    refine i4 mo18 hle (by omega) fun c2 l2 h20 mo20 s20 => ?_
    have o20 := o18.ext s20.1 dj2 (fun x q => mo18.fresh q)
    have hc1 := dqC_len r first most us hle q0
    have hl1 := dqL_len r first most us [] 0
    simp only [List.length_nil] at hl1
    generalize dqC r first most us = C at *
    generalize dqL r first most us [] 0 = L at *
    generalize dqR r first most us = R
    refine ⟨fun e => absurd rfl (of_decide_eq_true e), fun _ => ⟨fun e => absurd rfl (of_decide_eq_true e), fun _ => ⟨fun e => absurd rfl (of_decide_eq_true e), fun _ => ?_⟩⟩⟩
    refine mo20.ld0 (i5 (cells_spec o20 (by omega) fun s34 h35 n35 => ?_))
    have mo35 := mo20.more n35.le
    have o35 := o20.more n35.le
    refine ⟨mo35.obj.sees (kf := .sl) (y := c2) ⟨[], _, rfl, rfl⟩, i6 (sameInts3_spec n35.arr mo35.cell.arr (by omega) ⟨fun e => (by cases e), fun _ => ?_⟩)⟩
    refine mo35.ld3 (i7 (log_spec o35 (by omega) fun s39 h40 n40 => ?_))
    have mo40 := mo35.more n40.le
    refine ⟨mo40.obj.sees (kf := .sl) (y := l2) ⟨[c2.val, .int .i64 r, .int .i64 0], _, rfl, rfl⟩, i8 (sameLog3_spec n40.arr mo40.log.arr (by omega) ⟨fun e => (by cases e), fun _ => ?_⟩)⟩
    refine i3' ⟨fun e => (by cases e), fun _ => ⟨fun e => (by cases e), fun _ => ⟨fun e => (by cases e), fun _ => i9 fun h50 l50 => ⟨fun e => (by cases e), fun _ => ?_⟩⟩⟩⟩
    have fin : ∀ x : Int, Q (decide (x = x)) h50 := fun x => by
      have : decide (x = x) = true := by simp
      rw [this]
      exact hQ _ (mo40.le.trans l50)
    exact i10 (fun q => i11 (fun _ => fin _) (fun n => absurd q n)) (fun q => i11 (fun n => absurd n q) (fun _ => fin _))
  refine ⟨fun e => ⟨⟨q0, ?_⟩, ?_⟩, fun e => ?_⟩
  · have e : r < (s.len : Int) := of_decide_eq_true e
    omega
  · have e : r < (s.len : Int) := of_decide_eq_true e
    exact key _ _ (ha.pre (n := r.toNat) (by omega)) (by rw [List.length_take]; omega)
  · have e : ¬ r < (s.len : Int) := of_decide_eq_false e
    exact key _ _ ha (by rw [ha.1]; omega)

theorem arena3 {c1 : Int → Heap → ((Option Addr × (Int × Unit)) → Heap → Prop) → Prop} {c2 : Option Addr → Int → Heap → (Den K2 → Heap → Prop) → Prop} {c3 : Option Addr → Int → Int → Heap → (Int → Heap → Prop) → Prop} {c4 : Option Addr → Bool → Heap → (Unit → Heap → Prop) → Prop} {size : Int} {s : Sl} {h : Heap} {Q : (Option Addr × (Bool × Unit)) → Heap → Prop}
    (x : law9_arena.M c1 c2 c3 c4 size s h Q) : law3_arena.M c1 c2 c3 c4 size s h Q := x

end Go.Mx
