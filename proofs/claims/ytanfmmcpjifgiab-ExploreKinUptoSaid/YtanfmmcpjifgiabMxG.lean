/-
  Memory that is written: stores, new blocks, append, copy, and how the abstract heap follows.
-/
import Derived.Test.YtanfmmcpjifgiabMxF
set_option linter.unusedVariables false
set_option linter.unusedSimpArgs false
namespace Go.Mx

/-- A world after one block's cells have been written. -/
structure Wrote (b : Nat) (cs : List Value) (w w' : World) : Prop where
  here : ∃ t f old, w.heap[b]? = some (.cells old t f) ∧ w'.heap[b]? = some (.cells cs.toArray t f) ∧ old.size = cs.length
  else_ : ∀ c, c ≠ b → w'.heap[c]? = w.heap[c]?
  size : w'.heap.size = w.heap.size
  os : w'.os = w.os
  tape : w'.tape = w.tape
  out : w'.output = w.output

theorem splice_nil (cs : List Value) (off : Nat) : splice cs off [] = cs := by simp [splice]
theorem splice_cons (cs : List Value) (off : Nat) (v : Value) (l : List Value) (h : off < cs.length) : splice (cs.set off v) (off + 1) l = splice cs off (v :: l) := by
  have es : cs.set off v = (cs.take off ++ [v]) ++ cs.drop (off + 1) := by
    rw [List.set_eq_take_append_cons_drop, if_pos h]; simp
  have el : (cs.take off ++ [v]).length = off + 1 := by simp; omega
  unfold splice
  rw [es, List.take_left' el, ← List.drop_drop, List.drop_left' el, List.drop_drop]
  rw [show off + 1 + l.length = off + (l.length + 1) from by omega]
  simp
theorem splice_len (cs : List Value) (off : Nat) (l : List Value) (h : off + l.length ≤ cs.length) : (splice cs off l).length = cs.length := by
  simp [splice]; omega

theorem run_storeCells {P : Program} : ∀ (l : List Value) (a : Addr) (i : Nat) (w : World) (cs : List Value) (t : TypeId),
    a.spot = none → w.heap[a.block]? = some (.cells cs.toArray t (0, 0)) → a.off + i + l.length ≤ cs.length → (∀ v ∈ l, v.oneCell' = true) →
    ∃ w', (storeCells a l i).run P w = .ok () w' ∧ Wrote a.block (splice cs (a.off + i) l) w w'
  | [], a, i, w, cs, t, hs, hb, hl, ho => ⟨w, rfl, ⟨t, (0, 0), cs.toArray, hb, by rw [splice_nil]; exact hb, by rw [splice_nil]; simp⟩, fun _ _ => rfl, rfl, rfl, rfl, rfl⟩
  | v :: l, a, i, w, cs, t, hs, hb, hl, ho => by
    obtain ⟨ab, ao, as⟩ := a
    dsimp only at hs hb hl
    subst hs
    have hlt : ao + i < cs.length := by simp at hl; omega
    have hc : w.cell? ⟨ab, ao + i, none⟩ = some cs[ao + i] := by
      unfold World.cell?
      simp [hb, hlt]
    have hf : w.frozen? ⟨ab, ao + i, none⟩ = false := by
      unfold World.frozen?
      simp [hb]
    have hb' : (w.setCell ⟨ab, ao + i, none⟩ v).heap[ab]? = some (.cells (cs.set (ao + i) v).toArray t (0, 0)) := by
      simp only [World.setCell, Array.getElem?_modify, hb]
      simp
    obtain ⟨w', h1, h2⟩ := run_storeCells (P := P) l ⟨ab, ao, none⟩ (i + 1) (w.setCell ⟨ab, ao + i, none⟩ v) (cs.set (ao + i) v) t rfl hb' (by simp at hl ⊢; omega) (fun v hv => ho v (by simp [hv]))
    refine ⟨w', ?_, ?_⟩
    · simp only [storeCells, Sem.run_bind, add_none]
      rw [run_store P w _ v .plain (ho v (by simp))]
      simp only [hc, hf, Bool.false_eq_true, if_false, Result.andThen_ok]
      exact h1
    · have e : splice (cs.set (ao + i) v) (ao + (i + 1)) l = splice cs (ao + i) (v :: l) := splice_cons cs (ao + i) v l hlt
      dsimp only at h2
      rw [e] at h2
      refine ⟨?_, fun c hc => ?_, ?_, h2.os.trans rfl, h2.tape.trans rfl, h2.out.trans rfl⟩
      · obtain ⟨t', f', old, q1, q2, q3⟩ := h2.here
        rw [hb'] at q1
        cases q1
        exact ⟨t, (0, 0), cs.toArray, hb, q2, by rw [← q3]; simp⟩
      · rw [h2.else_ c hc]
        simp only [World.setCell, Array.getElem?_modify]
        rw [if_neg (fun e => hc e.symm)]
      · rw [h2.size]; simp [World.setCell]

theorem Wrote.inv {h0 h : Heap} {w0 w w' : World} {b : Nat} {cs : List Value} (a : Inv h0 w0 h w) (q : Wrote b cs w w') {old : List Value} (hb : h b = some (.cells old false)) :
    Inv h0 w0 (upd h b (.cells cs false)) w' where
  sub c o e := by
    by_cases hc : c = b
    · subst hc
      rw [upd_same] at e; cases e
      obtain ⟨t, f, o', q1, q2, _⟩ := q.here
      obtain ⟨x, hx, t', f', rfl, hf⟩ := a.sub _ _ hb
      rw [q1] at hx; cases hx
      exact ⟨_, q2, t, f, rfl, fun _ => hf rfl⟩
    · rw [upd_ne h _ hc] at e
      rw [q.else_ c hc]; exact a.sub c o e
  size := by rw [q.size]; exact a.size
  keep c hc e := by
    have hne : c ≠ b := fun e' => by
      subst e'
      have := (a.keep c hc e).2
      rw [hb] at this; cases this
    rw [q.else_ c hne, upd_ne h _ hne]; exact a.keep c hc e
  tag c hc := by
    by_cases e : c = b
    · subst e
      obtain ⟨t, f, o', q1, q2, _⟩ := q.here
      have := a.tag c hc
      rw [q1] at this
      rw [q2, ← this]; rfl
    · rw [q.else_ c e]; exact a.tag c hc
  os := q.os.trans a.os
  tape := q.tape.trans a.tape
  out := q.out.trans a.out

/-- A write to a block that nobody tracks, and that is not of the beginning. -/
theorem Wrote.hid {h0 h : Heap} {w0 w w' : World} {b : Nat} {cs : List Value} (a : Inv h0 w0 h w) (q : Wrote b cs w w') (hb : h b = none) (h0b : w0.heap.size ≤ b) : Inv h0 w0 h w' where
  sub c o e := by
    have hc : c ≠ b := fun e' => by subst e'; rw [hb] at e; cases e
    rw [q.else_ c hc]; exact a.sub c o e
  size := by rw [q.size]; exact a.size
  keep c hc e := by rw [q.else_ c (by omega)]; exact a.keep c hc e
  tag c hc := by rw [q.else_ c (by omega)]; exact a.tag c hc
  os := q.os.trans a.os
  tape := q.tape.trans a.tape
  out := q.out.trans a.out

/-- Kinds none of whose cells is an interface's or a function's. -/
def Kd.flat : Kd → Bool
  | .iface | .fn => false
  | .pair a b => a.flat && b.flat
  | .arr _ a => a.flat
  | _ => true
theorem Kd.flat_one : ∀ (k : Kd) (x : Den k), k.flat = true → ∀ v ∈ k.cells x, v.oneCell' = true
  | .int _, x, _, v, hv | .bool, x, _, v, hv | .str, x, _, v, hv | .ptr, x, _, v, hv | .map, x, _, v, hv => by simp [Kd.cells] at hv; subst hv; rfl
  | .sl, x, _, v, hv => by simp [Kd.cells] at hv; subst hv; rfl
  | .nil, x, _, v, hv => by simp [Kd.cells] at hv
  | .pair a b, x, h, v, hv => by
    simp [Kd.flat] at h
    simp [Kd.cells] at hv
    rcases hv with hv | hv
    · exact a.flat_one x.1 h.1 v hv
    · exact b.flat_one x.2 h.2 v hv
  | .arr n a, x, h, v, hv => by
    simp [Kd.flat] at h
    simp only [Kd.cells, List.mem_flatMap] at hv
    obtain ⟨y, _, hv⟩ := hv
    exact a.flat_one y h v hv

/-- Each cell is one cell. -/
def ones (k : Kd) (x : Den k) : Prop := ∀ v ∈ k.cells x, v.oneCell' = true
def flatOr (k : Kd) (x : Den k) (p : Prop) : Prop := bif k.flat then p else ones k x ∧ p
theorem flatOr_spec {k : Kd} {x : Den k} {p : Prop} (h : flatOr k x p) : ones k x ∧ p := by
  unfold flatOr at h
  cases e : k.flat
  · rw [e] at h; exact h
  · rw [e] at h; exact ⟨k.flat_one x e, h⟩

/-- A value that is stored: a struct's or an array's cells, else the value itself. -/
theorem val_cells_of {k : Kd} {x : Den k} (h : ones k x) : (k.val x).cells = (k.cells x).toArray := by
  by_cases ha : k.isAgg = true
  · rw [Kd.val_agg ha]; rfl
  · have ha : k.isAgg = false := by simpa using ha
    have e := Kd.cells_one ha x
    have : (k.val x).oneCell' = true := h _ (by rw [e]; simp)
    rw [e]
    cases hv : k.val x <;> first | rfl | (rw [hv] at this; cases this)

theorem run_storeVar {P : Program} {T : TypeId} {k : Kd} (hk : kdOf P D T = some k) {w : World} {a : Addr} {x : Den k} (ho : ones k x) {cs : List Value} {t : TypeId}
    (hs : a.spot = none) (hb : w.heap[a.block]? = some (.cells cs.toArray t (0, 0))) (hl : a.off + k.size ≤ cs.length) :
    ∃ w', (storeVar T a (k.val x)).run P w = .ok () w' ∧ Wrote a.block (splice cs a.off (k.cells x)) w w' := by
  obtain ⟨w', h1, h2⟩ := run_storeCells (P := P) (k.cells x) a 0 w cs t hs hb (by rw [Kd.cells_len]; omega) ho
  refine ⟨w', ?_, h2⟩
  unfold storeVar
  have hc := val_cells_of ho
  simp only [Sem.run_bind, run_sizeOf hk, Result.andThen_ok, hc]
  simp [Kd.cells_len]
  exact h1

/-! ### the abstract operations -/
/-- Cells written into a tracked block. -/
def st (k : Kd) (h : Heap) (a : Addr) (x : Den k) (K : Heap → Prop) : Prop := canWrite h a k.size ∧ flatOr k x (K (write h a (k.cells x)))

/-- A new block. -/
def new (h : Heap) (l : List Value) (K : Addr → Heap → Prop) : Prop := ∀ b, h b = none → K ⟨b, 0, none⟩ (upd h b (.cells l false))

/-- What a slice's first cells are. -/
def reads (h : Heap) (s : Sl) (n : Nat) (l : List Value) : Prop := l.length = n ∧ match s.a with
  | some a => cellsAt h a l
  | none => n = 0

/-- append(s, x...): elements of sz cells and 'bytes' bytes. -/
def appendM (sz bytes : Nat) (h : Heap) (s x : Sl) (K : Sl → Heap → Prop) : Prop :=
  (s.len + x.len) * bytes ≤ 140737488355328 ∧
  ∃ l, reads h x (x.len * sz) l ∧ (∀ v ∈ l, v.oneCell' = true) ∧
    (s.len + x.len ≤ s.cap → match s.a with
      | some a => canWrite h (a.add (s.len * sz)) (x.len * sz) ∧ K ⟨some a, s.len + x.len, s.cap⟩ (write h (a.add (s.len * sz)) l)
      | none => K ⟨none, s.len + x.len, s.cap⟩ h) ∧
    (s.cap < s.len + x.len → ∃ old, reads h s (s.len * sz) old ∧ ∀ c z, s.len + x.len ≤ c → z.length = (c - (s.len + x.len)) * sz →
      new h (old ++ l ++ z) fun a h' => K ⟨some a, s.len + x.len, c⟩ h')

/-- append(s, make([]T, n)...). -/
def appendZM (k : Kd) (bytes : Nat) (h : Heap) (s : Sl) (n : Int) (K : Sl → Heap → Prop) : Prop :=
  0 ≤ n ∧ (s.len + n.toNat) * bytes ≤ 140737488355328 ∧ (∀ v ∈ k.cells k.zero, v.oneCell' = true) ∧
    (s.len + n.toNat ≤ s.cap → match s.a with
      | some a => canWrite h (a.add (s.len * k.size)) (n.toNat * k.size) ∧ K ⟨some a, s.len + n.toNat, s.cap⟩ (write h (a.add (s.len * k.size)) ((List.replicate n.toNat (k.cells k.zero)).flatten))
      | none => K ⟨none, s.len + n.toNat, s.cap⟩ h) ∧
    (s.cap < s.len + n.toNat → ∃ old, reads h s (s.len * k.size) old ∧ ∀ c z, s.len + n.toNat ≤ c → z.length = (c - (s.len + n.toNat)) * k.size →
      new h (old ++ (List.replicate n.toNat (k.cells k.zero)).flatten ++ z) fun a h' => K ⟨some a, s.len + n.toNat, c⟩ h')

def copyM (sz : Nat) (h : Heap) (d s : Sl) (K : Int → Heap → Prop) : Prop :=
  ∃ l, reads h s (min s.len d.len * sz) l ∧ (∀ v ∈ l, v.oneCell' = true) ∧ match d.a with
    | some a => canWrite h a (min s.len d.len * sz) ∧ K (min s.len d.len : Nat) (write h a l)
    | none => K (min s.len d.len : Nat) h

/-- make([]T, n, c). -/
def makeM (k : Kd) (bytes : Nat) (h : Heap) (n c : Int) (K : Sl → Heap → Prop) : Prop :=
  (0 ≤ n ∧ n ≤ c ∧ bytes * c ≤ 281474976710656 ∧ c ≤ 9223372036854775807) ∧
  new h ((List.replicate c.toNat (k.cells k.zero)).flatten) fun a h' => K ⟨some a, n.toNat, c.toNat⟩ h'

end Go.Mx
