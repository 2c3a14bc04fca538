/-
  Memory that is written: stores, new blocks, append, copy, and how the abstract heap follows.
  append, copy, make: the machine does what the abstract operations say.
-/
import Derived.Test.YtndhbkhhehleaaaMxE
set_option linter.unusedVariables false
set_option linter.unusedSimpArgs false
namespace Go.Mx

structure Wrote (b : Nat) (cs : List Value) (w w' : World) : Prop where
  here : ∃ t f old, w.heap[b]? = some (.cells old t f) ∧ w'.heap[b]? = some (.cells cs.toArray t f) ∧ old.size = cs.length
  else_ : ∀ c, c ≠ b → w'.heap[c]? = w.heap[c]?
  size : w'.heap.size = w.heap.size
  os : w'.os = w.os
  tape : w'.tape = w.tape
  out : w'.output = w.output

theorem splice_nil (cs : List Value) (off : Nat) : splice cs off [] = cs := by simp [splice]
theorem splice_cons (cs : List Value) (off : Nat) (v : Value) (l : List Value) (h : off < cs.length) : splice (cs.set off v) (off + 1) l = splice cs off (v :: l) := by
  have es : cs.set off v = (cs.take off ++ [v]) ++ cs.drop (off + 1) := by
    rw [List.set_eq_take_append_cons_drop, if_pos h]; simp
  have el : (cs.take off ++ [v]).length = off + 1 := by simp; omega
  unfold splice
  rw [es, List.take_left' el, ← List.drop_drop, List.drop_left' el, List.drop_drop]
  rw [show off + 1 + l.length = off + (l.length + 1) from by omega]
  simp
theorem splice_len (cs : List Value) (off : Nat) (l : List Value) (h : off + l.length ≤ cs.length) : (splice cs off l).length = cs.length := by
  simp [splice]; omega

theorem run_storeCells {P : Program} : ∀ (l : List Value) (a : Addr) (i : Nat) (w : World) (cs : List Value) (t : TypeId),
    a.spot = none → w.heap[a.block]? = some (.cells cs.toArray t (0, 0)) → a.off + i + l.length ≤ cs.length → (∀ v ∈ l, v.oneCell' = true) →
    ∃ w', (storeCells a l i).run P w = .ok () w' ∧ Wrote a.block (splice cs (a.off + i) l) w w'
  | [], a, i, w, cs, t, hs, hb, hl, ho => ⟨w, rfl, ⟨t, (0, 0), cs.toArray, hb, by rw [splice_nil]; exact hb, by rw [splice_nil]; simp⟩, fun _ _ => rfl, rfl, rfl, rfl, rfl⟩
  | v :: l, a, i, w, cs, t, hs, hb, hl, ho => by
    obtain ⟨ab, ao, as⟩ := a
    dsimp only at hs hb hl
    subst hs
    have hlt : ao + i < cs.length := by simp at hl; omega
    have hc : w.cell? ⟨ab, ao + i, none⟩ = some cs[ao + i] := by
      unfold World.cell?
      simp [hb, hlt]
    have hf : w.frozen? ⟨ab, ao + i, none⟩ = false := by
      unfold World.frozen?
      simp [hb]
    have hb' : (w.setCell ⟨ab, ao + i, none⟩ v).heap[ab]? = some (.cells (cs.set (ao + i) v).toArray t (0, 0)) := by
      simp only [World.setCell, Array.getElem?_modify, hb]
      simp
    obtain ⟨w', h1, h2⟩ := run_storeCells (P := P) l ⟨ab, ao, none⟩ (i + 1) (w.setCell ⟨ab, ao + i, none⟩ v) (cs.set (ao + i) v) t rfl hb' (by simp at hl ⊢; omega) (fun v hv => ho v (by simp [hv]))
    refine ⟨w', ?_, ?_⟩
    · simp only [storeCells, Sem.run_bind, add_none]
      rw [run_store P w _ v .plain (ho v (by simp))]
      simp only [hc, hf, Bool.false_eq_true, if_false, Result.andThen_ok]
      exact h1
    · have e : splice (cs.set (ao + i) v) (ao + (i + 1)) l = splice cs (ao + i) (v :: l) := splice_cons cs (ao + i) v l hlt
      dsimp only at h2
      rw [e] at h2
      refine ⟨?_, fun c hc => ?_, ?_, h2.os.trans rfl, h2.tape.trans rfl, h2.out.trans rfl⟩
      · obtain ⟨t', f', old, q1, q2, q3⟩ := h2.here
        rw [hb'] at q1
        cases q1
        exact ⟨t, (0, 0), cs.toArray, hb, q2, by rw [← q3]; simp⟩
      · rw [h2.else_ c hc]
        simp only [World.setCell, Array.getElem?_modify]
        rw [if_neg (fun e => hc e.symm)]
      · rw [h2.size]; simp [World.setCell]

theorem Wrote.inv {h0 h : Heap} {w0 w w' : World} {b : Nat} {cs : List Value} (a : Inv h0 w0 h w) (q : Wrote b cs w w') {old : List Value} (hb : h b = some (.cells old false)) :
    Inv h0 w0 (upd h b (.cells cs false)) w' where
  sub c o e := by
    by_cases hc : c = b
    · subst hc
      rw [upd_same] at e; cases e
      obtain ⟨t, f, o', q1, q2, _⟩ := q.here
      obtain ⟨x, hx, t', f', rfl, hf⟩ := a.sub _ _ hb
      rw [q1] at hx; cases hx
      exact ⟨_, q2, t, f, rfl, fun _ => hf rfl⟩
    · rw [upd_ne h _ hc] at e
      rw [q.else_ c hc]; exact a.sub c o e
  size := by rw [q.size]; exact a.size
  keep c hc e := by
    have hne : c ≠ b := fun e' => by
      subst e'
      have := (a.keep c hc e).2
      rw [hb] at this; cases this
    rw [q.else_ c hne, upd_ne h _ hne]; exact a.keep c hc e
  tag c hc := by
    by_cases e : c = b
    · subst e
      obtain ⟨t, f, o', q1, q2, _⟩ := q.here
      have := a.tag c hc
      rw [q1] at this
      rw [q2, ← this]; rfl
    · rw [q.else_ c e]; exact a.tag c hc
  os := q.os.trans a.os
  tape := q.tape.trans a.tape
  out := q.out.trans a.out

theorem Wrote.hid {h0 h : Heap} {w0 w w' : World} {b : Nat} {cs : List Value} (a : Inv h0 w0 h w) (q : Wrote b cs w w') (hb : h b = none) (h0b : w0.heap.size ≤ b) : Inv h0 w0 h w' where
  sub c o e := by
    have hc : c ≠ b := fun e' => by subst e'; rw [hb] at e; cases e
    rw [q.else_ c hc]; exact a.sub c o e
  size := by rw [q.size]; exact a.size
  keep c hc e := by rw [q.else_ c (by omega)]; exact a.keep c hc e
  tag c hc := by rw [q.else_ c (by omega)]; exact a.tag c hc
  os := q.os.trans a.os
  tape := q.tape.trans a.tape
  out := q.out.trans a.out

def Kd.flat : Kd → Bool
  | .iface | .fn => false
  | .pair a b => a.flat && b.flat
  | .arr _ a => a.flat
  | _ => true
theorem Kd.flat_one : ∀ (k : Kd) (x : Den k), k.flat = true → ∀ v ∈ k.cells x, v.oneCell' = true
  | .int _, x, _, v, hv | .bool, x, _, v, hv | .str, x, _, v, hv | .ptr, x, _, v, hv | .map, x, _, v, hv => by simp [Kd.cells] at hv; subst hv; rfl
  | .sl, x, _, v, hv => by simp [Kd.cells] at hv; subst hv; rfl
  | .nil, x, _, v, hv => by simp [Kd.cells] at hv
  | .pair a b, x, h, v, hv => by
    simp [Kd.flat] at h
    simp [Kd.cells] at hv
    rcases hv with hv | hv
    · exact a.flat_one x.1 h.1 v hv
    · exact b.flat_one x.2 h.2 v hv
  | .arr n a, x, h, v, hv => by
    simp [Kd.flat] at h
    simp only [Kd.cells, List.mem_flatMap] at hv
    obtain ⟨y, _, hv⟩ := hv
    exact a.flat_one y h v hv

def ones (k : Kd) (x : Den k) : Prop := ∀ v ∈ k.cells x, v.oneCell' = true
def flatOr (k : Kd) (x : Den k) (p : Prop) : Prop := bif k.flat then p else ones k x ∧ p
theorem flatOr_spec {k : Kd} {x : Den k} {p : Prop} (h : flatOr k x p) : ones k x ∧ p := by
  unfold flatOr at h
  cases e : k.flat
  · rw [e] at h; exact h
  · rw [e] at h; exact ⟨k.flat_one x e, h⟩

theorem val_cells_of {k : Kd} {x : Den k} (h : ones k x) : (k.val x).cells = (k.cells x).toArray := by
  by_cases ha : k.isAgg = true
  · rw [Kd.val_agg ha]; rfl
  · have ha : k.isAgg = false := by simpa using ha
    have e := Kd.cells_one ha x
    have : (k.val x).oneCell' = true := h _ (by rw [e]; simp)
    rw [e]
    cases hv : k.val x <;> first | rfl | (rw [hv] at this; cases this)

theorem run_storeVar {P : Program} {T : TypeId} {k : Kd} (hk : kdOf P D T = some k) {w : World} {a : Addr} {x : Den k} (ho : ones k x) {cs : List Value} {t : TypeId}
    (hs : a.spot = none) (hb : w.heap[a.block]? = some (.cells cs.toArray t (0, 0))) (hl : a.off + k.size ≤ cs.length) :
    ∃ w', (storeVar T a (k.val x)).run P w = .ok () w' ∧ Wrote a.block (splice cs a.off (k.cells x)) w w' := by
  obtain ⟨w', h1, h2⟩ := run_storeCells (P := P) (k.cells x) a 0 w cs t hs hb (by rw [Kd.cells_len]; omega) ho
  refine ⟨w', ?_, h2⟩
  unfold storeVar
  have hc := val_cells_of ho
  simp only [Sem.run_bind, run_sizeOf hk, Result.andThen_ok, hc]
  simp [Kd.cells_len]
  exact h1

def st (k : Kd) (h : Heap) (a : Addr) (x : Den k) (K : Heap → Prop) : Prop := canWrite h a k.size ∧ flatOr k x (K (write h a (k.cells x)))

def new (h : Heap) (l : List Value) (K : Addr → Heap → Prop) : Prop := ∀ b, h b = none → K ⟨b, 0, none⟩ (upd h b (.cells l false))

def reads (h : Heap) (s : Sl) (n : Nat) (l : List Value) : Prop := l.length = n ∧ match s.a with
  | some a => cellsAt h a l
  | none => n = 0

def appendM (sz bytes : Nat) (h : Heap) (s x : Sl) (K : Sl → Heap → Prop) : Prop :=
  (s.len + x.len) * bytes ≤ 140737488355328 ∧
  ∃ l, reads h x (x.len * sz) l ∧ (∀ v ∈ l, v.oneCell' = true) ∧
    (s.len + x.len ≤ s.cap → match s.a with
      | some a => canWrite h (a.add (s.len * sz)) (x.len * sz) ∧ K ⟨some a, s.len + x.len, s.cap⟩ (write h (a.add (s.len * sz)) l)
      | none => K ⟨none, s.len + x.len, s.cap⟩ h) ∧
    (s.cap < s.len + x.len → ∃ old, reads h s (s.len * sz) old ∧ ∀ c z, s.len + x.len ≤ c → z.length = (c - (s.len + x.len)) * sz →
      new h (old ++ l ++ z) fun a h' => K ⟨some a, s.len + x.len, c⟩ h')

def appendZM (k : Kd) (bytes : Nat) (h : Heap) (s : Sl) (n : Int) (K : Sl → Heap → Prop) : Prop :=
  0 ≤ n ∧ (s.len + n.toNat) * bytes ≤ 140737488355328 ∧ (∀ v ∈ k.cells k.zero, v.oneCell' = true) ∧
    (s.len + n.toNat ≤ s.cap → match s.a with
      | some a => canWrite h (a.add (s.len * k.size)) (n.toNat * k.size) ∧ K ⟨some a, s.len + n.toNat, s.cap⟩ (write h (a.add (s.len * k.size)) ((List.replicate n.toNat (k.cells k.zero)).flatten))
      | none => K ⟨none, s.len + n.toNat, s.cap⟩ h) ∧
    (s.cap < s.len + n.toNat → ∃ old, reads h s (s.len * k.size) old ∧ ∀ c z, s.len + n.toNat ≤ c → z.length = (c - (s.len + n.toNat)) * k.size →
      new h (old ++ (List.replicate n.toNat (k.cells k.zero)).flatten ++ z) fun a h' => K ⟨some a, s.len + n.toNat, c⟩ h')

def copyM (sz : Nat) (h : Heap) (d s : Sl) (K : Int → Heap → Prop) : Prop :=
  ∃ l, reads h s (min s.len d.len * sz) l ∧ (∀ v ∈ l, v.oneCell' = true) ∧ match d.a with
    | some a => canWrite h a (min s.len d.len * sz) ∧ K (min s.len d.len : Nat) (write h a l)
    | none => K (min s.len d.len : Nat) h

def makeM (k : Kd) (bytes : Nat) (h : Heap) (n c : Int) (K : Sl → Heap → Prop) : Prop :=
  (0 ≤ n ∧ n ≤ c ∧ bytes * c ≤ 281474976710656 ∧ c ≤ 9223372036854775807) ∧
  new h ((List.replicate c.toNat (k.cells k.zero)).flatten) fun a h' => K ⟨some a, n.toNat, c.toNat⟩ h'

end Go.Mx

namespace Go.Mx

theorem growBy_le (need : Nat) (hn : 256 ≤ need) : ∀ (r c : Nat), c ≤ 2 * need → Builtin.growBy need r c ≤ 2 * need
  | 0, c, h => h
  | r + 1, c, h => by
    unfold Builtin.growBy
    split
    · exact h
    · exact growBy_le need hn r _ (by omega)
theorem nextslicecap_le {need c : Nat} (h : c < need) : Builtin.nextslicecap need c ≤ 2 * need := by
  unfold Builtin.nextslicecap
  split
  · omega
  · split
    · omega
    · exact growBy_le need (by omega) 4 c (by omega)

theorem run_firstCells {P : Program} {h : Heap} {w : World} (hs : Sub h w) {s : Sl} {sz n : Nat} {l : List Value} (hr : reads h s (n * sz) l) :
    (Builtin.firstCells sz n s.val).run P w = .ok l.toArray w := by
  obtain ⟨a, len, cap⟩ := s
  unfold reads at hr
  cases a with
  | none =>
    obtain ⟨h1, h2⟩ := hr
    dsimp only at h2
    have : l = [] := by rw [h2] at h1; exact List.length_eq_zero_iff.1 h1
    subst this
    rfl
  | some a =>
    obtain ⟨h1, h2⟩ := hr
    dsimp only at h2
    have := run_loadCells_list (P := P) (w := w) a l (fun j v e => cells_world hs h2 j v e)
    rw [h1] at this
    exact this

theorem canWrite_world {h : Heap} {w : World} (hs : Sub h w) {a : Addr} {n : Nat} (hc : canWrite h a n) :
    a.spot = none ∧ ∃ cs t, h a.block = some (.cells cs false) ∧ w.heap[a.block]? = some (.cells cs.toArray t (0, 0)) ∧ a.off + n ≤ cs.length := by
  obtain ⟨h1, cs, h2, h3⟩ := hc
  obtain ⟨x, hx, t, f, rfl, hf⟩ := hs _ _ h2
  exact ⟨h1, cs, t, h2, by rw [hx, hf rfl], h3⟩

theorem write_eq {h : Heap} {a : Addr} {cs : List Value} {ro : Bool} (e : h a.block = some (.cells cs ro)) (l : List Value) : write h a l = upd h a.block (.cells (splice cs a.off l) ro) := by
  unfold write; rw [e]

theorem run_storeCells_h {P : Program} {h : Heap} {w : World} (hs : Sub h w) {a : Addr} {l : List Value} {n : Nat} (hn : l.length = n) (hc : canWrite h a n) (ho : ∀ v ∈ l, v.oneCell' = true) :
    ∃ w', (storeCells a l).run P w = .ok () w' ∧ Inv h w (write h a l) w' := by
  obtain ⟨h1, cs, t, h2, h3, h4⟩ := canWrite_world hs hc
  obtain ⟨w', q1, q2⟩ := run_storeCells (P := P) l a 0 w cs t h1 h3 (by omega) ho
  refine ⟨w', q1, ?_⟩
  rw [write_eq h2]
  exact q2.inv (Inv.refl hs) h2

theorem new_inv {h : Heap} {w : World} (hs : Sub h w) (l : List Value) (T : TypeId) (n : Nat) :
    Inv h w (upd h w.heap.size (.cells l false)) { w with heap := w.heap.push (.cells l.toArray T), drawn := n } :=
  Inv.drew (Inv.new (Inv.refl hs) (o := .cells l.toArray T) (x := .cells l false) ⟨T, (0, 0), rfl, fun _ => rfl⟩) n

theorem zeroCells_size (z : Array Value) (n : Nat) : (Builtin.zeroCells z n).size = n * z.size := by simp [Builtin.zeroCells]

section
variable {P : Program} {argTypes : Array TypeId} {T T' e e' : TypeId} {i : TypeInfo} {k : Kd} (hT : argTypes[0]? = some T) (hu : P.underlying T = some (.slice e))
    (hT' : argTypes[1]? = some T') (hu' : P.underlying T' = some (.slice e')) (hk : kdOf P D e = some k) (hi : P.info? e = some i) (hb : i.bytes ≠ 0)
    (type : TypeId) {w : World} {sa xa : Option Addr} {sl sc xl xc : Nat}
include hT hu hT' hu' hk
theorem run_append_none (c : sl + xl ≤ sc) {l : Array Value} (hf : (Builtin.firstCells k.size xl (.slice xa xl xc)).run P w = .ok l w) :
    (Builtin.append_ argTypes type #[.slice none sl sc, .slice xa xl xc]).run P w = .ok (.slice none (sl + xl) sc) w := by
  unfold Builtin.append_
  simp only [hT, hT', List.getElem?_toArray, List.getElem?_cons_zero, List.getElem?_cons_succ, Sem.run_bind, run_underlying' hu, run_underlying' hu', Result.andThen_ok, run_sizeOf hk, Sem.run_pure, Bool.false_eq_true, if_false, Builtin.lenOf, Bool.not_false, if_true, c, hf]
theorem run_append_some {a : Addr} (c : sl + xl ≤ sc) {l : Array Value} {w' : World} (hf : (Builtin.firstCells k.size xl (.slice xa xl xc)).run P w = .ok l w)
    (hst : (storeCells (a.add (sl * k.size)) l.toList).run P w = .ok () w') :
    (Builtin.append_ argTypes type #[.slice (some a) sl sc, .slice xa xl xc]).run P w = .ok (.slice (some a) (sl + xl) sc) w' := by
  unfold Builtin.append_
  simp only [hT, hT', List.getElem?_toArray, List.getElem?_cons_zero, List.getElem?_cons_succ, Sem.run_bind, run_underlying' hu, run_underlying' hu', Result.andThen_ok, run_sizeOf hk, Sem.run_pure, Bool.false_eq_true, if_false, Builtin.lenOf, Bool.not_false, if_true, c, hf, hst]
include hi hb
theorem run_append_grow (c : ¬ sl + xl ≤ sc) (hn : ¬ Builtin.nextslicecap (sl + xl) sc * i.bytes > 2 ^ 48) {l old : Array Value} {nc : Nat}
    (hc : (choose (.appendCap (sl + xl) sc e)).run P w = .ok nc { w with drawn := w.drawn + 1 })
    (ho : (Builtin.firstCells k.size sl (.slice sa sl sc)).run P { w with drawn := w.drawn + 1 } = .ok old { w with drawn := w.drawn + 1 })
    (hf : (Builtin.firstCells k.size xl (.slice xa xl xc)).run P { w with drawn := w.drawn + 1 } = .ok l { w with drawn := w.drawn + 1 }) :
    (Builtin.append_ argTypes type #[.slice sa sl sc, .slice xa xl xc]).run P w =
      .ok (.slice (some ⟨w.heap.size, 0, none⟩) (sl + xl) nc) { w with heap := w.heap.push (.cells (old ++ l ++ Builtin.zeroCells (k.val k.zero).cells (nc - (sl + xl))) e), drawn := w.drawn + 1 } := by
  have hti : ∀ w, (typeInfo e).run P w = .ok i w := fun w => by simp [typeInfo, hi]
  unfold Builtin.append_
  simp only [hT, hT', List.getElem?_toArray, List.getElem?_cons_zero, List.getElem?_cons_succ, Sem.run_bind, run_underlying' hu, run_underlying' hu', Result.andThen_ok, run_sizeOf hk, Sem.run_pure, Bool.false_eq_true, if_false, Builtin.lenOf, Bool.not_false, if_true, c, hti, hb, or_false, and_false, hn, hc, run_askRoom, ho, hf, run_zeroValue hk, newRow, run_newObj]
end

theorem append_sound {P : Program} {argTypes : Array TypeId} {T T' e e' : TypeId} {i : TypeInfo} {k : Kd} (hT : argTypes[0]? = some T) (hu : P.underlying T = some (.slice e))
    (hT' : argTypes[1]? = some T') (hu' : P.underlying T' = some (.slice e'))
    (hk : kdOf P D e = some k) (hi : P.info? e = some i) (hb : i.bytes ≠ 0) {h : Heap} {s x : Sl} {K : Sl → Heap → Prop} (hm : appendM k.size i.bytes h s x K)
    {w : World} (hs : Sub h w) (type : TypeId) :
    ∃ s' h' w', (Builtin.append_ argTypes type #[s.val, x.val]).run P w = .ok s'.val w' ∧ Inv h w h' w' ∧ K s' h' := by
  obtain ⟨hbound, l, hr, hone, h1, h2⟩ := hm
  have hfx : ∀ w', Sub h w' → (Builtin.firstCells k.size x.len x.val).run P w' = .ok l.toArray w' := fun w' hw' => run_firstCells hw' hr
  obtain ⟨sa, slen, scap⟩ := s
  obtain ⟨xa, xlen, xcap⟩ := x
  dsimp only at h1 h2 hbound hr hfx
  by_cases c : slen + xlen ≤ scap
  · have h1 := h1 c
    cases sa with
    | none => exact ⟨⟨none, slen + xlen, scap⟩, h, w, run_append_none hT hu hT' hu' hk type c (hfx w hs), Inv.refl hs, h1⟩
    | some a =>
      obtain ⟨hc, hK⟩ := h1
      obtain ⟨w', q1, q2⟩ := run_storeCells_h (P := P) hs hr.1 hc hone
      exact ⟨⟨some a, slen + xlen, scap⟩, _, w', run_append_some hT hu hT' hu' hk type c (hfx w hs) q1, q2, hK⟩
  · obtain ⟨old, hro, hK⟩ := h2 (by omega)
    have hnc := nextslicecap_le (need := slen + xlen) (c := scap) (by omega)
    have hnb : ¬ Builtin.nextslicecap (slen + xlen) scap * i.bytes > 2 ^ 48 := by
      have h3 : Builtin.nextslicecap (slen + xlen) scap * i.bytes ≤ 2 * (slen + xlen) * i.bytes := Nat.mul_le_mul_right _ hnc
      rw [Nat.mul_assoc] at h3
      omega
    obtain ⟨nc, hnc1, hch⟩ : ∃ nc, slen + xlen ≤ nc ∧ (choose (.appendCap (slen + xlen) scap e)).run P w = .ok nc { w with drawn := w.drawn + 1 } :=
      ⟨(Question.appendCap (slen + xlen) scap e).cut (w.tape w.drawn (.appendCap (slen + xlen) scap e)), by simp [Question.cut], by simp [Question.forced]⟩
    have hz : (k.val k.zero).cells.size = k.size := by
      by_cases ha : k.isAgg = true
      · rw [Kd.val_agg ha]; simp [Value.cells, Kd.cells_len]
      · cases k <;> first | rfl | (exact absurd rfl ha)
    have hs' : Sub h { w with drawn := w.drawn + 1 } := hs
    have hold := run_firstCells (P := P) hs' hro
    have hrun := run_append_grow hT hu hT' hu' hk hi hb type (sa := sa) (xa := xa) (xc := xcap) c hnb hch hold (hfx _ hs')
    refine ⟨⟨some ⟨w.heap.size, 0, none⟩, slen + xlen, nc⟩, _, _, hrun, ?_,
      hK nc (Builtin.zeroCells (k.val k.zero).cells (nc - (slen + xlen))).toList hnc1 (by simp [zeroCells_size, hz]) w.heap.size (none_of_size hs)⟩
    have := new_inv hs (old ++ l ++ (Builtin.zeroCells (k.val k.zero).cells (nc - (slen + xlen))).toList) e (w.drawn + 1)
    have e1 : (old ++ l ++ (Builtin.zeroCells (k.val k.zero).cells (nc - (slen + xlen))).toList).toArray = old.toArray ++ l.toArray ++ Builtin.zeroCells (k.val k.zero).cells (nc - (slen + xlen)) := by
      apply Array.ext'; simp
    rw [e1] at this
    exact this

theorem copy_sound {P : Program} {argTypes : Array TypeId} {T e : TypeId} {k : Kd} (hT : argTypes[0]? = some T) (hu : P.underlying T = some (.slice e))
    (hk : kdOf P D e = some k) {h : Heap} {d s : Sl} {K : Int → Heap → Prop} (hm : copyM k.size h d s K) {w : World} (hs : Sub h w) (type : TypeId) :
    ∃ n h' w', (Builtin.copy_ argTypes type #[d.val, s.val]).run P w = .ok (.int .i64 n) w' ∧ Inv h w h' w' ∧ K n h' := by
  obtain ⟨l, hr, hone, hm⟩ := hm
  have hf := run_firstCells (P := P) hs hr
  obtain ⟨da, dlen, dcap⟩ := d
  obtain ⟨sa, slen, scap⟩ := s
  have e1 : Nat.min slen dlen = min slen dlen := rfl
  cases da with
  | none =>
    refine ⟨_, h, w, ?_, Inv.refl hs, hm⟩
    simp only [Sl.val] at hf
    simp [Builtin.copy_, hT, run_underlying' hu, Sl.val, Builtin.lenOf, run_sizeOf hk, e1, hf, goInt]
  | some a =>
    obtain ⟨hc, hK⟩ := hm
    obtain ⟨w', q1, q2⟩ := run_storeCells_h (P := P) hs hr.1 hc hone
    refine ⟨_, _, w', ?_, q2, hK⟩
    simp only [Sl.val] at hf
    simp [Builtin.copy_, hT, run_underlying' hu, Sl.val, Builtin.lenOf, run_sizeOf hk, e1, hf, goInt, q1]

theorem flatten_rep (l : List Value) (n : Nat) (hl : l.length ≠ 0) : (Array.range (n * l.length)).map (fun j => l.toArray[j % l.toArray.size]!) = ((List.replicate n l).flatten).toArray := by
  apply Array.ext
  · simp
  · intro i h1 h2
    simp at h1
    simp only [Array.getElem_map, Array.getElem_range, List.size_toArray]
    have hlt : i % l.length < l.length := Nat.mod_lt _ (by omega)
    rw [getElem!_pos l.toArray (i % l.length) (by simpa using hlt)]
    simp only [List.getElem_toArray]
    have key : ∀ (n i : Nat), i < n * l.length → ((List.replicate n l).flatten)[i]? = l[i % l.length]? := by
      intro n
      induction n with
      | zero => intro i h; simp at h
      | succ n ih =>
        intro i h
        rw [List.replicate_succ, List.flatten_cons]
        by_cases c : i < l.length
        · rw [List.getElem?_append_left c, Nat.mod_eq_of_lt c]
        · rw [List.getElem?_append_right (by omega), ih _ (by rw [Nat.succ_mul] at h; omega)]
          rw [← Nat.mod_eq_sub_mod (a := i) (b := l.length) (by omega)]
    have := key n i h1
    rw [List.getElem?_eq_getElem (by simpa using h1), List.getElem?_eq_getElem hlt] at this
    exact (Option.some.inj this).symm

section
variable {P : Program} {argTypes : Array TypeId} {T T' e : TypeId} {ik kn : IntKind} {i : TypeInfo} {k : Kd} (hT : argTypes[0]? = some T) (hu : P.underlying T = some (.slice e))
    (hT' : argTypes[1]? = some T') (hu' : P.underlying T' = some (.int ik)) (hk : kdOf P D e = some k) (hi : P.info? e = some i) (hb : i.bytes ≠ 0) (hz : k.size ≠ 0)
    (type : TypeId) {w : World} {sa : Option Addr} {sl sc : Nat} {n : Int} (h0 : 0 ≤ n) (hn : (sl + n.toNat) * i.bytes ≤ 140737488355328)
include hT hu hT' hu' hk hi hb hz h0 hn
theorem run_appendz_fit (c : sl + n.toNat ≤ sc) {w' : World}
    (hst : match sa with
      | some a => (storeCells (a.add (sl * k.size)) ((List.replicate n.toNat (k.cells k.zero)).flatten)).run P w = .ok () w'
      | none => w' = w) :
    (Builtin.append_ argTypes type #[.slice sa sl sc, .int kn n]).run P w = .ok (.slice sa (sl + n.toNat) sc) w' := by
  have hti : ∀ w, (typeInfo e).run P w = .ok i w := fun w => by simp [typeInfo, hi]
  have hb1 : 1 ≤ i.bytes := Nat.one_le_iff_ne_zero.2 hb
  have hle : n.toNat * i.bytes ≤ 140737488355328 := Nat.le_trans (Nat.mul_le_mul_right _ (by omega)) hn
  have hle1 : n.toNat ≤ 140737488355328 := Nat.le_trans (Nat.le_mul_of_pos_right _ (by omega)) hle
  have hwr : IntKind.i64.wrap n = n := by simp [IntKind.wrap, IntKind.bits, IntKind.signed]; omega
  have hnb : ¬ n * (i.bytes : Int) > 2 ^ 48 := by
    have : n * (i.bytes : Int) = ((n.toNat * i.bytes : Nat) : Int) := by rw [Int.natCast_mul]; congr 1; omega
    rw [this]; omega
  have hrep := flatten_rep (k.cells k.zero) n.toNat (by rw [Kd.cells_len]; exact hz)
  have hcs : (k.val k.zero).cells = (k.cells k.zero).toArray := by
    by_cases ha : k.isAgg = true
    · rw [Kd.val_agg ha]; rfl
    · have ha : k.isAgg = false := by simpa using ha
      rw [Kd.cells_one ha]
      cases k <;> first | rfl | cases ha
  have hzc : Builtin.zeroCells (k.val k.zero).cells n.toNat = ((List.replicate n.toNat (k.cells k.zero)).flatten).toArray := by
    rw [← hrep, hcs]
    simp [Builtin.zeroCells, Kd.cells_len]
  have hz0 : n.toNat * k.size = 0 → n.toNat = 0 := fun c0 => by rcases Nat.mul_eq_zero.1 c0 with h | h; exact h; exact absurd h hz
  unfold Builtin.append_
  simp only [hT, hT', List.getElem?_toArray, List.getElem?_cons_zero, List.getElem?_cons_succ, Sem.run_bind, run_underlying' hu, run_underlying' hu', Result.andThen_ok, run_sizeOf hk, Sem.run_pure, if_true, asInt, asIntOf, Go.asInt, hwr, show ¬ n < 0 from by omega, hti, hnb, if_false, Bool.not_true, Bool.false_eq_true, c]
  by_cases c0 : n.toNat * k.size = 0
  · have n0 := hz0 c0
    rw [n0] at hst
    cases sa with
    | none =>
      dsimp only at hst
      subst hst
      simp [c0]
    | some a =>
      dsimp only at hst
      simp [n0] at hst
      simp [c0, n0, hst]
  · cases sa with
    | none =>
      dsimp only at hst
      subst hst
      simp only [c0, if_false, Sem.run_bind, run_zeroValue hk, Result.andThen_ok, Sem.run_pure]
    | some a =>
      dsimp only at hst
      simp only [c0, if_false, Sem.run_bind, run_zeroValue hk, Result.andThen_ok, Sem.run_pure, hzc, hst]
theorem run_appendz_grow (c : ¬ sl + n.toNat ≤ sc) {old : Array Value} {nc : Nat}
    (hc : (choose (.appendCap (sl + n.toNat) sc e)).run P w = .ok nc { w with drawn := w.drawn + 1 })
    (ho : (Builtin.firstCells k.size sl (.slice sa sl sc)).run P { w with drawn := w.drawn + 1 } = .ok old { w with drawn := w.drawn + 1 }) :
    (Builtin.append_ argTypes type #[.slice sa sl sc, .int kn n]).run P w =
      .ok (.slice (some ⟨w.heap.size, 0, none⟩) (sl + n.toNat) nc) { w with heap := w.heap.push (.cells (old ++ ((List.replicate n.toNat (k.cells k.zero)).flatten).toArray ++ Builtin.zeroCells (k.val k.zero).cells (nc - (sl + n.toNat))) e), drawn := w.drawn + 1 } := by
  have hti : ∀ w, (typeInfo e).run P w = .ok i w := fun w => by simp [typeInfo, hi]
  have hb1 : 1 ≤ i.bytes := Nat.one_le_iff_ne_zero.2 hb
  have hle : n.toNat * i.bytes ≤ 140737488355328 := Nat.le_trans (Nat.mul_le_mul_right _ (by omega)) hn
  have hle1 : n.toNat ≤ 140737488355328 := Nat.le_trans (Nat.le_mul_of_pos_right _ (by omega)) hle
  have hle2 : sl + n.toNat ≤ 140737488355328 := Nat.le_trans (Nat.le_mul_of_pos_right _ (by omega)) hn
  have hwr : IntKind.i64.wrap n = n := by simp [IntKind.wrap, IntKind.bits, IntKind.signed]; omega
  have hnb : ¬ n * (i.bytes : Int) > 2 ^ 48 := by
    have : n * (i.bytes : Int) = ((n.toNat * i.bytes : Nat) : Int) := by rw [Int.natCast_mul]; congr 1; omega
    rw [this]; omega
  have hrep := flatten_rep (k.cells k.zero) n.toNat (by rw [Kd.cells_len]; exact hz)
  have hcs : (k.val k.zero).cells = (k.cells k.zero).toArray := by
    by_cases ha : k.isAgg = true
    · rw [Kd.val_agg ha]; rfl
    · have ha : k.isAgg = false := by simpa using ha
      rw [Kd.cells_one ha]
      cases k <;> first | rfl | cases ha
  have hzc : Builtin.zeroCells (k.val k.zero).cells n.toNat = ((List.replicate n.toNat (k.cells k.zero)).flatten).toArray := by
    rw [← hrep, hcs]
    simp [Builtin.zeroCells, Kd.cells_len]
  have hz0 : n.toNat * k.size = 0 → n.toNat = 0 := fun c0 => by rcases Nat.mul_eq_zero.1 c0 with h | h; exact h; exact absurd h hz
  have hmx : ¬ ((sl + n.toNat : Nat) : Int) > IntKind.i64.max := by
    have : IntKind.i64.max = 9223372036854775807 := by decide
    rw [this]; omega
  have hnc := nextslicecap_le (need := sl + n.toNat) (c := sc) (by omega)
  have hnb2 : ¬ Builtin.nextslicecap (sl + n.toNat) sc * i.bytes > 2 ^ 48 := by
    have h3 : Builtin.nextslicecap (sl + n.toNat) sc * i.bytes ≤ 2 * (sl + n.toNat) * i.bytes := Nat.mul_le_mul_right _ hnc
    rw [Nat.mul_assoc] at h3
    omega
  unfold Builtin.append_
  simp only [hT, hT', List.getElem?_toArray, List.getElem?_cons_zero, List.getElem?_cons_succ, Sem.run_bind, run_underlying' hu, run_underlying' hu', Result.andThen_ok, run_sizeOf hk, Sem.run_pure, if_true, asInt, asIntOf, Go.asInt, hwr, show ¬ n < 0 from by omega, hti, hnb, if_false, Bool.not_true, Bool.false_eq_true, c, hmx, false_and, hnb2, hc, run_askRoom, ho]
  by_cases c0 : n.toNat * k.size = 0
  · have n0 := hz0 c0
    simp only [n0, Nat.zero_mul, if_true, Sem.run_bind, run_zeroValue hk, Result.andThen_ok, Sem.run_pure, newRow, run_newObj, List.replicate_zero, List.flatten_nil]
  · simp only [c0, if_false, Sem.run_bind, run_zeroValue hk, Result.andThen_ok, Sem.run_pure, hzc, newRow, run_newObj]
end

theorem appendz_sound {P : Program} {argTypes : Array TypeId} {T T' e : TypeId} {ik kn : IntKind} {i : TypeInfo} {k : Kd} (hT : argTypes[0]? = some T) (hu : P.underlying T = some (.slice e))
    (hT' : argTypes[1]? = some T') (hu' : P.underlying T' = some (.int ik))
    (hk : kdOf P D e = some k) (hi : P.info? e = some i) (hb : i.bytes ≠ 0) (hz : k.size ≠ 0) {h : Heap} {s : Sl} {n : Int} {K : Sl → Heap → Prop} (hm : appendZM k i.bytes h s n K)
    {w : World} (hs : Sub h w) (type : TypeId) :
    ∃ s' h' w', (Builtin.append_ argTypes type #[s.val, .int kn n]).run P w = .ok s'.val w' ∧ Inv h w h' w' ∧ K s' h' := by
  obtain ⟨h0, hbound, hone0, h1, h2⟩ := hm
  have hone : ∀ v ∈ (List.replicate n.toNat (k.cells k.zero)).flatten, v.oneCell' = true := by
    intro v hv
    obtain ⟨l, hl, hv⟩ := List.mem_flatten.1 hv
    rw [List.eq_of_mem_replicate hl] at hv
    exact hone0 v hv
  obtain ⟨sa, slen, scap⟩ := s
  dsimp only at h1 h2 hbound
  by_cases c : slen + n.toNat ≤ scap
  · have h1 := h1 c
    cases sa with
    | none => exact ⟨⟨none, slen + n.toNat, scap⟩, h, w, run_appendz_fit hT hu hT' hu' hk hi hb hz type h0 hbound c (sa := none) rfl, Inv.refl hs, h1⟩
    | some a =>
      obtain ⟨hc, hK⟩ := h1
      obtain ⟨w', q1, q2⟩ := run_storeCells_h (P := P) hs (by simp [Kd.cells_len]) hc hone
      exact ⟨⟨some a, slen + n.toNat, scap⟩, _, w', run_appendz_fit hT hu hT' hu' hk hi hb hz type h0 hbound c (sa := some a) q1, q2, hK⟩
  · obtain ⟨old, hro, hK⟩ := h2 (by omega)
    obtain ⟨nc, hnc1, hch⟩ : ∃ nc, slen + n.toNat ≤ nc ∧ (choose (.appendCap (slen + n.toNat) scap e)).run P w = .ok nc { w with drawn := w.drawn + 1 } :=
      ⟨(Question.appendCap (slen + n.toNat) scap e).cut (w.tape w.drawn (.appendCap (slen + n.toNat) scap e)), by simp [Question.cut], by simp [Question.forced]⟩
    have hzs : (k.val k.zero).cells.size = k.size := by
      by_cases ha : k.isAgg = true
      · rw [Kd.val_agg ha]; simp [Value.cells, Kd.cells_len]
      · cases k <;> first | rfl | (exact absurd rfl ha)
    have hs' : Sub h { w with drawn := w.drawn + 1 } := hs
    have hold := run_firstCells (P := P) hs' hro
    have hrun := run_appendz_grow hT hu hT' hu' hk hi hb hz type (kn := kn) h0 hbound (sa := sa) c hch hold
    refine ⟨⟨some ⟨w.heap.size, 0, none⟩, slen + n.toNat, nc⟩, _, _, hrun, ?_,
      hK nc (Builtin.zeroCells (k.val k.zero).cells (nc - (slen + n.toNat))).toList hnc1 (by simp [zeroCells_size, hzs]) w.heap.size (none_of_size hs)⟩
    have := new_inv hs (old ++ (List.replicate n.toNat (k.cells k.zero)).flatten ++ (Builtin.zeroCells (k.val k.zero).cells (nc - (slen + n.toNat))).toList) e (w.drawn + 1)
    have e1 : (old ++ (List.replicate n.toNat (k.cells k.zero)).flatten ++ (Builtin.zeroCells (k.val k.zero).cells (nc - (slen + n.toNat))).toList).toArray = old.toArray ++ ((List.replicate n.toNat (k.cells k.zero)).flatten).toArray ++ Builtin.zeroCells (k.val k.zero).cells (nc - (slen + n.toNat)) := by
      apply Array.ext'; simp
    rw [e1] at this
    exact this

theorem make_sound {P : Program} {T e : TypeId} {i : TypeInfo} {k : Kd} (hu : P.underlying T = some (.slice e)) (hk : kdOf P D e = some k) (hi : P.info? e = some i) (hz : k.size ≠ 0)
    {h : Heap} {kn kc : IntKind} {n c : Int} {K : Sl → Heap → Prop} (hm : makeM k i.bytes h n c K) {w : World} (hs : Sub h w) :
    ∃ s' h' w', (Instr.makeSlice T (.int kn n) (.int kc c)).run P w = .ok s'.val w' ∧ Inv h w h' w' ∧ K s' h' := by
  obtain ⟨⟨h1, h2, h3, h4⟩, hK⟩ := hm
  have hti : ∀ w, (typeInfo e).run P w = .ok i w := fun w => by simp [typeInfo, hi]
  have wn : IntKind.i64.wrap n = n := by simp [IntKind.wrap, IntKind.bits, IntKind.signed]; omega
  have wc : IntKind.i64.wrap c = c := by simp [IntKind.wrap, IntKind.bits, IntKind.signed]; omega
  have hcs : (k.val k.zero).cells = (k.cells k.zero).toArray := by
    by_cases ha : k.isAgg = true
    · rw [Kd.val_agg ha]; rfl
    · have ha : k.isAgg = false := by simpa using ha
      rw [Kd.cells_one ha]
      cases k <;> first | rfl | cases ha
  refine ⟨⟨some ⟨w.heap.size, 0, none⟩, n.toNat, c.toNat⟩, _, { w with heap := w.heap.push (.cells ((List.replicate c.toNat (k.cells k.zero)).flatten).toArray e) }, ?_, ?_, hK w.heap.size (none_of_size hs)⟩
  · simp only [Instr.makeSlice, Sem.run_bind, run_underlying' hu, Result.andThen_ok, asInt, asIntOf, Go.asInt, Sem.run_pure, hti, wn, wc]
    rw [Sem.run_ite, if_neg (by simp; omega)]
    simp only [Sem.run_bind, Sem.run_pure, run_askRoom, Result.andThen_ok, run_sizeOf hk]
    have hrep := flatten_rep (k.cells k.zero) c.toNat (by rw [Kd.cells_len]; exact hz)
    rw [Kd.cells_len] at hrep
    by_cases hc0 : c.toNat * k.size = 0
    · have : c.toNat = 0 := by rcases Nat.mul_eq_zero.1 hc0 with h | h; exact h; exact absurd h hz
      have e0 : Array.map (fun _ => (default : Value)) (Array.range 0) = #[] := by simp [Array.range]
      simp [this, newRow, Sl.val, e0]
    · simp only [hc0, if_false, Sem.run_bind, run_zeroValue hk, Result.andThen_ok, Sem.run_pure, newRow, run_newObj, hcs, hrep, Sl.val]
  · exact new_inv hs _ e w.drawn

end Go.Mx
