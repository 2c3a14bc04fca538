/-
  Arguments: from the form's reading to values of known kinds; from a law's call over the abstract heap to its row.
  From a law's call over the abstract heap to its row.
-/
import Derived.Test.YtndhbkhhehleaaaMxN
import Derived.Test.YtndhbkhhehleaaaRows
import Derived.ProofKit
import Derived.JoinedCond
import Derived.Carry
import Derived.OpenShut
set_option linter.unusedVariables false
set_option linter.unusedSimpArgs false
namespace Go.Mx
open Go.RowKit Go.ChangeShapes Go.Proofs.Ytndhbkhhehleaaa

def viewO : Obj → Option HObj
  | .cells c _ _ => some (.cells c.toList true)
  | .map es k => some (.map es k)
  | _ => none
def view (W : World) : Heap := fun b => (W.heap[b]?).bind viewO
theorem view_sub (W : World) : Sub (view W) W := by
  intro b o e
  unfold view at e
  cases h : W.heap[b]? with
  | none => rw [h] at e; cases e
  | some x =>
    rw [h] at e
    refine ⟨x, rfl, ?_⟩
    cases x <;> simp [viewO] at e <;> subst e
    · exact ⟨_, _, rfl, fun h => by cases h⟩
    · rfl
theorem view_cell {W : World} {a : Addr} {v : Value} (h : W.cell? a = some v) : cell (view W) a = some v := by
  unfold World.cell? at h
  unfold cell view
  cases e : W.heap[a.block]? with
  | none => rw [e] at h; cases h
  | some x =>
    rw [e] at h
    cases x <;> simp at h
    simp [viewO, h]
theorem below_of {W W' : World} {h' : Heap} (q : Inv (view W) W h' W') (l : le (view W) h') : Below W.heap.size W W' where
  os := q.os
  tape := q.tape
  output := q.out
  size := q.size
  block b hb := by
    cases e : view W b with
    | none => exact (q.keep b hb e).1
    | some o =>
      obtain ⟨x', hx', hi'⟩ := q.sub b o (l b o e)
      have ht := q.tag b hb
      have hx : ∃ x, W.heap[b]? = some x := ⟨W.heap[b], by simp [hb]⟩
      obtain ⟨x, hx⟩ := hx
      unfold view at e
      rw [hx] at e ht ⊢
      rw [hx'] at ht ⊢
      cases x <;> simp [viewO] at e <;> subst e
      · obtain ⟨t, f, rfl, _⟩ := hi'
        simp [tagOf] at ht
        simp [ht]
      · cases hi'; rfl

def lay (P : Program) (total : Nat) : List Field → Nat → Bool
  | [], off => Nat.beq off total
  | f :: r, off => Nat.beq f.offset off && lay P total r (off + P.cellsOf f.type)
def deepOk (P : Program) : Nat → TypeId → Bool
  | 0, _ => false
  | m + 1, T => match P.underlying T with
    | some .bool | some (.int _) | some .string => true
    | some (.slice e) => (kdOf P D e).isSome && deepOk P m e
    | some (.struct fs) => lay P (P.cellsOf T) fs.toList 0 && fs.toList.all fun f => deepOk P m f.type
      | _ => false

def FieldsOf (rec : TypeId → (k : Kd) → Den k → Prop) : List Field → (k : Kd) → Den k → Prop
  | f :: fs, .pair a b, x => rec f.type a x.1 ∧ FieldsOf rec fs b x.2
  | _, _, _ => True
def DataOf (P : Program) (W : World) (B : Nat) : Nat → TypeId → (k : Kd) → Den k → Prop
  | 0, _, _, _ => False
  | m + 1, T, k, x => match k, x with
    | .int ik, x => (Lit.int ik x).wf = true
    | .str, s => s.size ≤ B
    | .sl, s => s = ⟨none, 0, 0⟩ ∨ ∃ (e : TypeId) (ke : Kd) (a : Addr) (all : List (Den ke)), P.underlying T = some (.slice e) ∧ kdOf P D e = some ke ∧ s.a = some a ∧ all.length = s.cap ∧ s.len ≤ s.cap ∧ s.cap ≤ B ∧
        cellsAt (view W) a (all.flatMap ke.cells) ∧ ∀ y ∈ all, DataOf P W B m e ke y
    | .pair a b, x => ∃ fs, P.underlying T = some (.struct fs) ∧ FieldsOf (DataOf P W B m) fs.toList (.pair a b) x
    | .arr n a, f => ∃ e, P.underlying T = some (.array n e) ∧ ∀ i, DataOf P W B m e a (f i)
    | _, _ => True

theorem FieldsOf.mono {r r' : TypeId → (k : Kd) → Den k → Prop} (h : ∀ T k x, r T k x → r' T k x) : ∀ (fs : List Field) (k : Kd) (x : Den k), FieldsOf r fs k x → FieldsOf r' fs k x
  | f :: fs, .pair a b, x, q => ⟨h _ _ _ q.1, FieldsOf.mono h fs b x.2 q.2⟩
  | [], .pair .., _, _ => trivial
  | [], .int _, _, _ | [], .bool, _, _ | [], .str, _, _ | [], .sl, _, _ | [], .ptr, _, _ | [], .map, _, _ | [], .iface, _, _ | [], .fn, _, _ | [], .nil, _, _ | [], .arr .., _, _ => trivial
  | _ :: _, .int _, _, _ | _ :: _, .bool, _, _ | _ :: _, .str, _, _ | _ :: _, .sl, _, _ | _ :: _, .ptr, _, _ | _ :: _, .map, _, _ | _ :: _, .iface, _, _ | _ :: _, .fn, _, _ | _ :: _, .nil, _, _ | _ :: _, .arr .., _, _ => trivial
theorem DataOf.mono {P : Program} {W : World} {B B' : Nat} (hB : B ≤ B') : ∀ (m : Nat) (T : TypeId) (k : Kd) (x : Den k), DataOf P W B m T k x → DataOf P W B' m T k x
  | 0, _, _, _, h => h
  | m + 1, T, k, x, h => by
    cases k with
    | int ik => exact h
    | str => exact Nat.le_trans h hB
    | sl =>
      rcases h with h | ⟨e, ke, a, all, h1, h2, h3, h4, h5, h6, h7, h8⟩
      · exact .inl h
      · exact .inr ⟨e, ke, a, all, h1, h2, h3, h4, h5, Nat.le_trans h6 hB, h7, fun y hy => DataOf.mono hB m e ke y (h8 y hy)⟩
    | pair a b =>
      obtain ⟨fs, h1, h2⟩ := h
      exact ⟨fs, h1, FieldsOf.mono (fun T k x q => DataOf.mono hB m T k x q) _ _ _ h2⟩
    | arr n a =>
      obtain ⟨e, h1, h2⟩ := h
      exact ⟨e, h1, fun i => DataOf.mono hB m e a _ (h2 i)⟩
    | _ => trivial

theorem mapM_some {α β : Type} {f : α → Option β} : ∀ {l : List α} {r : List β}, l.mapM f = some r → ∃ (_ : l.length = r.length), ∀ (i : Nat) (x : α), l[i]? = some x → ∃ y, r[i]? = some y ∧ f x = some y
  | [], r, h => by simp at h; subst h; exact ⟨rfl, fun i x h => by simp at h⟩
  | a :: l, r, h => by
    simp only [List.mapM_cons, Option.bind_eq_bind, Option.bind_eq_some_iff] at h
    obtain ⟨b, hb, s, hs, hr⟩ := h
    simp at hr
    subst hr
    obtain ⟨h1, h2⟩ := mapM_some hs
    refine ⟨by simp [h1], fun i x hi => ?_⟩
    cases i with
    | zero => simp at hi; subst hi; exact ⟨b, rfl, hb⟩
    | succ i => simpa using h2 i x (by simpa using hi)

theorem bulk_part {H : Type} {d : DataW H} {l : List (DataW H)} (h : d ∈ l) : Rows.uptoBulk d ≤ Rows.uptoBulkAll l := by
  induction l with
  | nil => cases h
  | cons x r ih =>
    simp only [Rows.uptoBulkAll]
    cases List.mem_cons.1 h with
    | inl e => subst e; omega
    | inr e => have := ih e; omega
theorem bulk_one {H : Type} (d : DataW H) : 1 ≤ Rows.uptoBulk d := by
  cases d with
  | lit l => cases l <;> simp [Rows.uptoBulk]
  | _ => simp [Rows.uptoBulk]
theorem bulk_len {H : Type} (l : List (DataW H)) : l.length ≤ Rows.uptoBulkAll l := by
  induction l with
  | nil => simp [Rows.uptoBulkAll]
  | cons x r ih => have := bulk_one x; simp only [Rows.uptoBulkAll, List.length_cons]; omega

theorem cells?_some {W : World} {base : Nat} {a : Addr} {n : Nat} {cs : List Value} (h : W.cells? base a n = some cs) : cs.length = n ∧ ∀ (j : Nat) (v : Value), cs[j]? = some v → W.cell? (a.add j) = some v := by
  unfold World.cells? at h
  split at h
  · obtain ⟨h1, h2⟩ := mapM_some h
    simp at h1
    refine ⟨h1.symm, fun j v hv => ?_⟩
    have hj : j < n := by rw [h1]; exact (List.getElem?_eq_some_iff.1 hv).1
    obtain ⟨y, hy1, hy2⟩ := h2 j j (by simp [hj])
    rw [hv] at hy1
    cases hy1
    exact hy2
  · cases h

theorem cellsOf_kd {P : Program} {c : Nat} {T : TypeId} {k : Kd} (hk : kdOf P c T = some k) : P.cellsOf T = k.size := by
  obtain ⟨i, d, hi, _, hs, _⟩ := kdOf_spec hk
  simp [Program.cellsOf, hi, hs]

theorem add_add (a : Addr) (i j : Nat) : (a.add i).add j = a.add (i + j) := by
  unfold Addr.add
  by_cases hi : i = 0 <;> by_cases hj : j = 0 <;> simp [hi, hj, Nat.add_assoc]

theorem list_of {k : Kd} : ∀ (n : Nat) (cs : Nat → List Value) (q : Nat → Den k → Prop), (∀ i, i < n → ∃ x : Den k, cs i = k.cells x ∧ q i x) → ∃ l : List (Den k), l.length = n ∧ ∀ (i : Nat) (x : Den k), l[i]? = some x → cs i = k.cells x ∧ q i x
  | 0, cs, q, h => ⟨[], rfl, fun i x h => by simp at h⟩
  | n + 1, cs, q, h => by
    obtain ⟨l, h1, h2⟩ := list_of n cs q (fun i hi => h i (by omega))
    obtain ⟨x, hx⟩ := h n (by omega)
    refine ⟨l ++ [x], by simp [h1], fun i y hy => ?_⟩
    by_cases c : i < n
    · rw [List.getElem?_append_left (by omega)] at hy; exact h2 i y hy
    · rw [List.getElem?_append_right (by omega)] at hy
      have : i = n := by
        have := (List.getElem?_eq_some_iff.1 hy).1
        simp at this; omega
      subst this
      simp [h1] at hy
      subst hy; exact hx

theorem flatMap_get {α : Type} (f : α → List Value) (m : Nat) (hf : ∀ x, (f x).length = m) (hm : 0 < m) (l : List α) (j : Nat) (v : Value) (h : (l.flatMap f)[j]? = some v) : ∃ x, l[j / m]? = some x ∧ (f x)[j % m]? = some v := by
  induction l generalizing j with
  | nil => simp at h
  | cons x l ih =>
    rw [List.flatMap_cons] at h
    by_cases c : j < m
    · rw [List.getElem?_append_left (by rw [hf]; exact c)] at h
      exact ⟨x, by rw [Nat.div_eq_of_lt c]; rfl, by rw [Nat.mod_eq_of_lt c]; exact h⟩
    · rw [List.getElem?_append_right (by rw [hf]; omega), hf] at h
      obtain ⟨y, h1, h2⟩ := ih _ h
      have e1 : j / m = (j - m) / m + 1 := by rw [← Nat.sub_add_cancel (Nat.le_of_not_lt c), Nat.add_div_right _ hm, Nat.add_sub_cancel]
      have e2 : j % m = (j - m) % m := by rw [← Nat.sub_add_cancel (Nat.le_of_not_lt c), Nat.add_mod_right, Nat.add_sub_cancel]
      exact ⟨y, by rw [e1]; simpa using h1, by rw [e2]; exact h2⟩

theorem trod_fields {H : Type} {enc : TypeId × Value → H} {P : Program} {W : World} {c n total : Nat} {rec : TypeId → (k : Kd) → Den k → Prop} {xs : List (DataW H × List MemPlace)} {all : List Value} (hall : all.length = total) :
    ∀ (fs : List Field) (j off : Nat) (k : Kd),
      (∀ (f : Field) (d : DataW H) (ps : List MemPlace) (cs : List Value) (k : Kd), f ∈ fs → (d, ps) ∈ xs → kdOf P c f.type = some k → DataW.trod enc P W 0 (fun _ => true) true n f.type cs = some (d, ps) → ∃ x : Den k, cs = k.cells x ∧ rec f.type k x) →
      lay P total fs off = true →
      fs.foldr (fun f acc => match kdOf P c f.type, acc with | some a, some b => some (Kd.pair a b) | _, _ => none) (some .nil) = some k →
      (∀ (i : Nat) (f : Field), fs[i]? = some f → ∃ y, xs[j + i]? = some y ∧ DataW.trod enc P W 0 (fun _ => true) true n f.type ((all.drop f.offset).take (P.cellsOf f.type)) = some y) →
      ∃ x : Den k, all.drop off = k.cells x ∧ FieldsOf rec fs k x
  | [], j, off, k, ih, hl, hk, ht => by
    cases hk
    simp only [lay] at hl
    have := Nat.eq_of_beq_eq_true hl
    exact ⟨(), by rw [List.drop_of_length_le (by omega)]; rfl, trivial⟩
  | f :: fs, j, off, k, ih, hl, hk, ht => by
    simp only [List.foldr_cons] at hk
    split at hk
    · rename_i a b ha hb
      cases hk
      simp only [lay, Bool.and_eq_true] at hl
      have hoff := Nat.eq_of_beq_eq_true hl.1
      obtain ⟨y, hy, hty⟩ := ht 0 f rfl
      obtain ⟨d, ps⟩ := y
      obtain ⟨x, hx1, hx2⟩ := ih f d ps _ a (by simp) (List.mem_of_getElem? hy) ha hty
      obtain ⟨z, hz1, hz2⟩ := trod_fields hall fs (j + 1) (off + P.cellsOf f.type) b (fun f' d ps cs k hf => ih f' d ps cs k (by simp [hf])) hl.2 hb
        (fun i f' hf' => by have := ht (i + 1) f' (by simpa using hf'); rwa [show j + (i + 1) = j + 1 + i from by omega] at this)
      refine ⟨(x, z), ?_, hx2, hz2⟩
      simp only [Kd.cells]
      rw [← hx1, ← hz1, hoff, ← List.drop_drop, List.take_append_drop]
    · cases hk

theorem trod_data {H : Type} {enc : TypeId × Value → H} {P : Program} {W : World} : ∀ (m : Nat) (T : TypeId) (cs : List Value) (d : DataW H) (ps : List MemPlace) (c n : Nat) (k : Kd), deepOk P m T = true → kdOf P c T = some k →
    DataW.trod enc P W 0 (fun _ => true) true n T cs = some (d, ps) → ∃ x : Den k, cs = k.cells x ∧ DataOf P W (Rows.uptoBulk d) m T k x
  | 0, T, cs, d, ps, c, n, k, h, hk, ht => by simp [deepOk] at h
  | m + 1, T, cs, d, ps, c, n, k, h, hk, ht => by
    cases c with
    | zero => simp [kdOf] at hk
    | succ c =>
    have hk0 := hk
    simp only [deepOk] at h
    simp only [kdOf] at hk
    split at hk
    · rename_i i0 d0 hi0 hd0
      rw [hd0] at h
      split at hk
      · rename_i k' hk'
        split at hk
        · cases hk
          cases d0 with
          | bool => cases hk'; obtain ⟨b, rfl, hx⟩ := DataW.trod_bool hd0 ht; exact ⟨b, rfl, trivial⟩
          | int ik => cases hk'; obtain ⟨b, rfl, hx, hw⟩ := DataW.trod_int hd0 ht; exact ⟨b, rfl, hw⟩
          | string =>
            cases hk'
            obtain ⟨b, rfl, hx, hw⟩ := DataW.trod_string hd0 ht
            cases hx
            refine ⟨b, rfl, ?_⟩
            simp only [DataOf, Rows.uptoBulk]
            have : b.data.toList.length = b.size := rfl
            omega
          | slice e =>
            cases hk'
            simp only [Bool.and_eq_true] at h
            obtain ⟨hsome, hdeep⟩ := h
            obtain ⟨ke, hke⟩ := Option.isSome_iff_exists.1 hsome
            rcases DataW.trod_slice hd0 ht with ⟨rfl, hx⟩ | ⟨a, len, cap, elems, rest, n', hn', rfl, hx, hb, hl, hm, hlen, hel, hsp, hns⟩
            · exact ⟨⟨none, 0, 0⟩, rfl, .inl rfl⟩
            · cases hx
              obtain ⟨hrl, hre⟩ := hsp rfl
              have hsz := cellsOf_kd hke
              have each : ∀ i, i < cap → ∃ y, (elems ++ rest)[i]? = some y ∧ ∃ cs', W.cells? 0 (a.add (i * P.cellsOf e)) (P.cellsOf e) = some cs' ∧ DataW.trod enc P W 0 (fun _ => true) true n' e cs' = some y := by
                intro i hi
                by_cases c : i < len
                · have h1 := hel i c
                  have h2 : ∃ y, elems[i]? = some y := ⟨elems[i]'(by omega), by simp [hlen, c]⟩
                  obtain ⟨y, hy⟩ := h2
                  rw [hy, Option.bind_eq_some_iff] at h1
                  obtain ⟨cs', q1, q2⟩ := h1
                  exact ⟨y, by rw [List.getElem?_append_left (by omega)]; exact hy, cs', q1, q2⟩
                · have h1 := hre (i - len) (by omega)
                  have h2 : ∃ y, rest[i - len]? = some y := ⟨rest[i - len]'(by omega), by simp⟩
                  obtain ⟨y, hy⟩ := h2
                  rw [hy, Option.bind_eq_some_iff] at h1
                  rw [show len + (i - len) = i from by omega] at h1
                  obtain ⟨cs', q1, q2⟩ := h1
                  exact ⟨y, by rw [List.getElem?_append_right (by omega), hlen]; exact hy, cs', q1, q2⟩
              let B := Rows.uptoBulk (DataW.slice (elems.map (·.1)) (rest.map (·.1)))
              have hBl : cap + 1 ≤ B := by
                have h1 := bulk_len (elems.map (·.1))
                have h2 := bulk_len (rest.map (·.1))
                simp only [List.length_map] at h1 h2
                show cap + 1 ≤ Rows.uptoBulk _
                simp only [Rows.uptoBulk]
                omega
              have hBy : ∀ y ∈ elems ++ rest, Rows.uptoBulk y.1 ≤ B := by
                intro y hy
                show _ ≤ Rows.uptoBulk _
                simp only [Rows.uptoBulk]
                rcases List.mem_append.1 hy with hy | hy
                · have := bulk_part (List.mem_map_of_mem (f := (·.1)) hy); omega
                · have := bulk_part (List.mem_map_of_mem (f := (·.1)) hy); omega
              have vals : ∀ i, i < cap → ∃ x : Den ke, (W.cells? 0 (a.add (i * ke.size)) ke.size).getD [] = ke.cells x ∧ (W.cells? 0 (a.add (i * ke.size)) ke.size = some (ke.cells x) ∧ DataOf P W B m e ke x) := by
                intro i hi
                obtain ⟨y, hy, cs', q1, q2⟩ := each i hi
                obtain ⟨d', ps'⟩ := y
                obtain ⟨x, hx1, hx2⟩ := trod_data m e cs' d' ps' D n' ke hdeep hke q2
                rw [hsz] at q1
                exact ⟨x, by rw [q1, hx1]; rfl, by rw [q1, hx1], DataOf.mono (hBy _ (List.mem_of_getElem? hy)) m e ke x hx2⟩
              obtain ⟨all, hal, hall⟩ := list_of cap (fun i => (W.cells? 0 (a.add (i * ke.size)) ke.size).getD []) (fun i x => W.cells? 0 (a.add (i * ke.size)) ke.size = some (ke.cells x) ∧ DataOf P W B m e ke x) vals
              refine ⟨⟨some a, len, cap⟩, rfl, .inr ⟨e, ke, a, all, hd0, hke, rfl, hal, hl, Nat.le_trans (Nat.le_succ cap) hBl, ?_, ?_⟩⟩
              · intro j v hj
                by_cases hz : 0 < ke.size
                · obtain ⟨x, h1, h2⟩ := flatMap_get ke.cells ke.size ke.cells_len hz all j v hj
                  obtain ⟨_, h3, _⟩ := hall _ x h1
                  have := (cells?_some h3).2 _ v h2
                  rw [add_add] at this
                  rw [show j / ke.size * ke.size + j % ke.size = j from by rw [Nat.mul_comm]; exact Nat.div_add_mod j ke.size] at this
                  exact view_cell this
                · have : (all.flatMap ke.cells) = [] := by
                    have := flatMap_len ke.cells ke.size ke.cells_len all
                    rw [show ke.size = 0 from by omega, Nat.mul_zero] at this
                    exact List.length_eq_zero_iff.1 this
                  rw [this] at hj; simp at hj
              · intro y hy
                obtain ⟨i, hi⟩ := List.getElem?_of_mem hy
                exact (hall i y hi).2.2
          | struct fs =>
            simp only [Bool.and_eq_true] at h
            obtain ⟨hlay, hdeep⟩ := h
            obtain ⟨xs, n', hn', hx, hlen, hxl, hxs⟩ := DataW.trod_struct hd0 ht
            cases hx
            have hall := trod_fields (xs := xs) (rec := DataOf P W (Rows.uptoBulk (DataW.agg (xs.map (·.1)))) m) hlen fs.toList 0 0 k
              (fun f d ps cs k hf hd hk ht' => by
                rw [List.all_eq_true] at hdeep
                obtain ⟨x, q1, q2⟩ := trod_data m f.type cs d ps c n' k (hdeep f hf) hk ht'
                refine ⟨x, q1, DataOf.mono ?_ m f.type k x q2⟩
                simp only [Rows.uptoBulk]
                have h9 : Rows.uptoBulk d ≤ Rows.uptoBulkAll (xs.map (·.1)) := bulk_part (List.mem_map_of_mem (f := (·.1)) hd)
                omega)
              hlay hk' (fun i f hf => by
                have h1 := hxs i f (by simpa using hf)
                have h2 : ∃ y, xs[i]? = some y := ⟨xs[i]'(by have := (List.getElem?_eq_some_iff.1 hf).1; simp at this; omega), by simp⟩
                obtain ⟨y, hy⟩ := h2
                rw [hy] at h1
                exact ⟨y, by simpa using hy, h1⟩)
            obtain ⟨x, h1, h2⟩ := hall
            refine ⟨x, by simpa using h1, ?_⟩
            have hk' : fs.toList.foldr (fun f acc => match kdOf P c f.type, acc with | some a, some b => some (Kd.pair a b) | _, _ => none) (some .nil) = some k := hk'
            cases hfs : fs.toList with
            | nil => rw [hfs] at hk'; cases hk'; trivial
            | cons f r =>
              have : ∃ a b, k = .pair a b := by
                rw [hfs] at hk'
                simp only [List.foldr_cons] at hk'
                split at hk'
                · cases hk'; exact ⟨_, _, rfl⟩
                · cases hk'
              obtain ⟨a, b, rfl⟩ := this
              exact ⟨fs, hd0, h2⟩
          | _ => first | (cases h; done) | (cases hk'; done)
        · cases hk
      · cases hk
    · cases hk

end Go.Mx

namespace Go.Mx
open Go.RowKit Go.ChangeShapes Go.WideShapes Go.Proofs.Ytndhbkhhehleaaa

theorem trodAll_stays {H : Type} {enc : TypeId × Value → H} {P : Program} (hl : laidOutB P = true) {W W' : World} {sp : Nat → Bool} : ∀ {ts : List TypeId} {vs : List Value} {ds : List (DataW H)} {ps : List MemPlace},
    (ts.all fun t => P.readableRec t && decide (t < P.types.size)) = true → DataW.TrodAll enc P W 0 (fun _ => true) true ts vs ds ps → (∀ p ∈ ps, W.sameAt W' p) → (∀ p ∈ ps, sp p.block = true) →
    DataW.TrodAll enc P W' 0 sp true ts vs ds ps
  | [], vs, ds, ps, hr, h, hs, hp => by
    obtain ⟨rfl, rfl, rfl⟩ := trodAll_nil h
    exact trodAll_mk0
  | t :: ts, vs, ds, ps, hr, h, hs, hp => by
    simp only [List.all_cons, Bool.and_eq_true, decide_eq_true_eq] at hr
    obtain ⟨v, vs', d, ds', p, q, rfl, rfl, rfl, h1, h2⟩ := trodAll_cons h
    exact trodAll_cons_mk (WideElems.Trod_stays hl hr.1.1 hr.1.2 h1 (fun x hx => hs x (by simp [hx])) (fun x hx => hp x (by simp [hx])))
      (trodAll_stays hl hr.2 h2 (fun x hx => hs x (by simp [hx])) (fun x hx => hp x (by simp [hx])))

theorem law_post {H : Type} {enc : TypeId × Value → H} {P : Program} {f : FuncId} {fn : Func} {s : ChangeSpec} {bT : TypeId} (hl : laidOutB P = true) (hres : fn.resultTypes = #[bT]) (hb : P.underlying bT = some .bool) (hv : s.vars = [])
    (hrd : (fn.params.toList.all fun t => P.readableRec t && decide (t < P.types.size)) = true) {W : World} {args : Array Value} {ds gs : List (DataW H)} {before : List MemPlace}
    (hW : DataW.Whole enc P fn.params.toList s.vars false W args.toList ds gs before) (hfn : gs = [] → (s.fn H (ds ++ gs)).results = [.lit (.bool true)] ∧ (s.fn H (ds ++ gs)).args = ds ∧ (s.fn H (ds ++ gs)).vars = [])
    (call : CallT P f args.toList false .bool (view W) fun b h' => b = true ∧ le (view W) h') :
    Calls P f args W fun e W' => ∃ v, e = .returned v ∧ s.post enc P fn false true false false W args v W' := by
  refine (call W (view_sub W)).mono ?_
  rintro e W' ⟨v, h', rfl, q, b, rfl, rfl, hle⟩
  have hbel := below_of q hle
  refine ⟨_, rfl, ?_⟩
  have hlt := hW.lt
  have hW' := hW
  obtain ⟨p, qq, hA, hV, rfl, hfz, hnd⟩ := hW
  rw [hv] at hV
  obtain ⟨rfl, rfl⟩ := trodVars_none hV
  obtain ⟨e1, e2, e3⟩ := hfn rfl
  refine ⟨ds, [], p ++ [], [], p, [], hW', ?_, ?_, ?_, hbel.frame _, fun h => by cases h⟩
  · rw [hres, e1]
    exact trodAll_cons_mk (shut_bool hb true) trodAll_mk0
  · rw [e2]
    exact trodAll_stays hl hrd hA (fun x hx => hbel.same (hlt x (by simp [hx]))) (fun x hx => by have := hlt x (by simp [hx]); simpa using this)
  · rw [hv, e3]
    rfl

end Go.Mx
