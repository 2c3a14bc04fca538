/-
  append, copy, make: the machine does what the abstract operations say.
-/
import Derived.Test.YtanfmmcpjifgiabMxG
set_option linter.unusedVariables false
set_option linter.unusedSimpArgs false
namespace Go.Mx

theorem growBy_le (need : Nat) (hn : 256 ≤ need) : ∀ (r c : Nat), c ≤ 2 * need → Builtin.growBy need r c ≤ 2 * need
  | 0, c, h => h
  | r + 1, c, h => by
    unfold Builtin.growBy
    split
    · exact h
    · exact growBy_le need hn r _ (by omega)
theorem nextslicecap_le {need c : Nat} (h : c < need) : Builtin.nextslicecap need c ≤ 2 * need := by
  unfold Builtin.nextslicecap
  split
  · omega
  · split
    · omega
    · exact growBy_le need (by omega) 4 c (by omega)

theorem run_firstCells {P : Program} {h : Heap} {w : World} (hs : Sub h w) {s : Sl} {sz n : Nat} {l : List Value} (hr : reads h s (n * sz) l) :
    (Builtin.firstCells sz n s.val).run P w = .ok l.toArray w := by
  obtain ⟨a, len, cap⟩ := s
  unfold reads at hr
  cases a with
  | none =>
    obtain ⟨h1, h2⟩ := hr
    dsimp only at h2
    have : l = [] := by rw [h2] at h1; exact List.length_eq_zero_iff.1 h1
    subst this
    rfl
  | some a =>
    obtain ⟨h1, h2⟩ := hr
    dsimp only at h2
    have := run_loadCells_list (P := P) (w := w) a l (fun j v e => cells_world hs h2 j v e)
    rw [h1] at this
    exact this

theorem canWrite_world {h : Heap} {w : World} (hs : Sub h w) {a : Addr} {n : Nat} (hc : canWrite h a n) :
    a.spot = none ∧ ∃ cs t, h a.block = some (.cells cs false) ∧ w.heap[a.block]? = some (.cells cs.toArray t (0, 0)) ∧ a.off + n ≤ cs.length := by
  obtain ⟨h1, cs, h2, h3⟩ := hc
  obtain ⟨x, hx, t, f, rfl, hf⟩ := hs _ _ h2
  exact ⟨h1, cs, t, h2, by rw [hx, hf rfl], h3⟩

theorem write_eq {h : Heap} {a : Addr} {cs : List Value} {ro : Bool} (e : h a.block = some (.cells cs ro)) (l : List Value) : write h a l = upd h a.block (.cells (splice cs a.off l) ro) := by
  unfold write; rw [e]

theorem run_storeCells_h {P : Program} {h : Heap} {w : World} (hs : Sub h w) {a : Addr} {l : List Value} {n : Nat} (hn : l.length = n) (hc : canWrite h a n) (ho : ∀ v ∈ l, v.oneCell' = true) :
    ∃ w', (storeCells a l).run P w = .ok () w' ∧ Inv h w (write h a l) w' := by
  obtain ⟨h1, cs, t, h2, h3, h4⟩ := canWrite_world hs hc
  obtain ⟨w', q1, q2⟩ := run_storeCells (P := P) l a 0 w cs t h1 h3 (by omega) ho
  refine ⟨w', q1, ?_⟩
  rw [write_eq h2]
  exact q2.inv (Inv.refl hs) h2

theorem new_inv {h : Heap} {w : World} (hs : Sub h w) (l : List Value) (T : TypeId) (n : Nat) :
    Inv h w (upd h w.heap.size (.cells l false)) { w with heap := w.heap.push (.cells l.toArray T), drawn := n } :=
  Inv.drew (Inv.new (Inv.refl hs) (o := .cells l.toArray T) (x := .cells l false) ⟨T, (0, 0), rfl, fun _ => rfl⟩) n

theorem zeroCells_size (z : Array Value) (n : Nat) : (Builtin.zeroCells z n).size = n * z.size := by simp [Builtin.zeroCells]

section
variable {P : Program} {argTypes : Array TypeId} {T T' e e' : TypeId} {i : TypeInfo} {k : Kd} (hT : argTypes[0]? = some T) (hu : P.underlying T = some (.slice e))
    (hT' : argTypes[1]? = some T') (hu' : P.underlying T' = some (.slice e')) (hk : kdOf P D e = some k) (hi : P.info? e = some i) (hb : i.bytes ≠ 0)
    (type : TypeId) {w : World} {sa xa : Option Addr} {sl sc xl xc : Nat}
include hT hu hT' hu' hk
theorem run_append_none (c : sl + xl ≤ sc) {l : Array Value} (hf : (Builtin.firstCells k.size xl (.slice xa xl xc)).run P w = .ok l w) :
    (Builtin.append_ argTypes type #[.slice none sl sc, .slice xa xl xc]).run P w = .ok (.slice none (sl + xl) sc) w := by
  unfold Builtin.append_
  simp only [hT, hT', List.getElem?_toArray, List.getElem?_cons_zero, List.getElem?_cons_succ, Sem.run_bind, run_underlying' hu, run_underlying' hu', Result.andThen_ok, run_sizeOf hk, Sem.run_pure, Bool.false_eq_true, if_false, Builtin.lenOf, Bool.not_false, if_true, c, hf]
theorem run_append_some {a : Addr} (c : sl + xl ≤ sc) {l : Array Value} {w' : World} (hf : (Builtin.firstCells k.size xl (.slice xa xl xc)).run P w = .ok l w)
    (hst : (storeCells (a.add (sl * k.size)) l.toList).run P w = .ok () w') :
    (Builtin.append_ argTypes type #[.slice (some a) sl sc, .slice xa xl xc]).run P w = .ok (.slice (some a) (sl + xl) sc) w' := by
  unfold Builtin.append_
  simp only [hT, hT', List.getElem?_toArray, List.getElem?_cons_zero, List.getElem?_cons_succ, Sem.run_bind, run_underlying' hu, run_underlying' hu', Result.andThen_ok, run_sizeOf hk, Sem.run_pure, Bool.false_eq_true, if_false, Builtin.lenOf, Bool.not_false, if_true, c, hf, hst]
include hi hb
theorem run_append_grow (c : ¬ sl + xl ≤ sc) (hn : ¬ Builtin.nextslicecap (sl + xl) sc * i.bytes > 2 ^ 48) {l old : Array Value} {nc : Nat}
    (hc : (choose (.appendCap (sl + xl) sc e)).run P w = .ok nc { w with drawn := w.drawn + 1 })
    (ho : (Builtin.firstCells k.size sl (.slice sa sl sc)).run P { w with drawn := w.drawn + 1 } = .ok old { w with drawn := w.drawn + 1 })
    (hf : (Builtin.firstCells k.size xl (.slice xa xl xc)).run P { w with drawn := w.drawn + 1 } = .ok l { w with drawn := w.drawn + 1 }) :
    (Builtin.append_ argTypes type #[.slice sa sl sc, .slice xa xl xc]).run P w =
      .ok (.slice (some ⟨w.heap.size, 0, none⟩) (sl + xl) nc) { w with heap := w.heap.push (.cells (old ++ l ++ Builtin.zeroCells (k.val k.zero).cells (nc - (sl + xl))) e), drawn := w.drawn + 1 } := by
  have hti : ∀ w, (typeInfo e).run P w = .ok i w := fun w => by simp [typeInfo, hi]
  unfold Builtin.append_
  simp only [hT, hT', List.getElem?_toArray, List.getElem?_cons_zero, List.getElem?_cons_succ, Sem.run_bind, run_underlying' hu, run_underlying' hu', Result.andThen_ok, run_sizeOf hk, Sem.run_pure, Bool.false_eq_true, if_false, Builtin.lenOf, Bool.not_false, if_true, c, hti, hb, or_false, and_false, hn, hc, run_askRoom, ho, hf, run_zeroValue hk, newRow, run_newObj]
end

theorem append_sound {P : Program} {argTypes : Array TypeId} {T T' e e' : TypeId} {i : TypeInfo} {k : Kd} (hT : argTypes[0]? = some T) (hu : P.underlying T = some (.slice e))
    (hT' : argTypes[1]? = some T') (hu' : P.underlying T' = some (.slice e'))
    (hk : kdOf P D e = some k) (hi : P.info? e = some i) (hb : i.bytes ≠ 0) {h : Heap} {s x : Sl} {K : Sl → Heap → Prop} (hm : appendM k.size i.bytes h s x K)
    {w : World} (hs : Sub h w) (type : TypeId) :
    ∃ s' h' w', (Builtin.append_ argTypes type #[s.val, x.val]).run P w = .ok s'.val w' ∧ Inv h w h' w' ∧ K s' h' := by
  obtain ⟨hbound, l, hr, hone, h1, h2⟩ := hm
  have hfx : ∀ w', Sub h w' → (Builtin.firstCells k.size x.len x.val).run P w' = .ok l.toArray w' := fun w' hw' => run_firstCells hw' hr
  obtain ⟨sa, slen, scap⟩ := s
  obtain ⟨xa, xlen, xcap⟩ := x
  dsimp only at h1 h2 hbound hr hfx
  by_cases c : slen + xlen ≤ scap
  · have h1 := h1 c
    cases sa with
    | none => exact ⟨⟨none, slen + xlen, scap⟩, h, w, run_append_none hT hu hT' hu' hk type c (hfx w hs), Inv.refl hs, h1⟩
    | some a =>
      obtain ⟨hc, hK⟩ := h1
      obtain ⟨w', q1, q2⟩ := run_storeCells_h (P := P) hs hr.1 hc hone
      exact ⟨⟨some a, slen + xlen, scap⟩, _, w', run_append_some hT hu hT' hu' hk type c (hfx w hs) q1, q2, hK⟩
  · obtain ⟨old, hro, hK⟩ := h2 (by omega)
    have hnc := nextslicecap_le (need := slen + xlen) (c := scap) (by omega)
    have hnb : ¬ Builtin.nextslicecap (slen + xlen) scap * i.bytes > 2 ^ 48 := by
      have h3 : Builtin.nextslicecap (slen + xlen) scap * i.bytes ≤ 2 * (slen + xlen) * i.bytes := Nat.mul_le_mul_right _ hnc
      rw [Nat.mul_assoc] at h3
      omega
    obtain ⟨nc, hnc1, hch⟩ : ∃ nc, slen + xlen ≤ nc ∧ (choose (.appendCap (slen + xlen) scap e)).run P w = .ok nc { w with drawn := w.drawn + 1 } :=
      ⟨(Question.appendCap (slen + xlen) scap e).cut (w.tape w.drawn (.appendCap (slen + xlen) scap e)), by simp [Question.cut], by simp [Question.forced]⟩
    have hz : (k.val k.zero).cells.size = k.size := by
      by_cases ha : k.isAgg = true
      · rw [Kd.val_agg ha]; simp [Value.cells, Kd.cells_len]
      · cases k <;> first | rfl | (exact absurd rfl ha)
    have hs' : Sub h { w with drawn := w.drawn + 1 } := hs
    have hold := run_firstCells (P := P) hs' hro
    have hrun := run_append_grow hT hu hT' hu' hk hi hb type (sa := sa) (xa := xa) (xc := xcap) c hnb hch hold (hfx _ hs')
    refine ⟨⟨some ⟨w.heap.size, 0, none⟩, slen + xlen, nc⟩, _, _, hrun, ?_,
      hK nc (Builtin.zeroCells (k.val k.zero).cells (nc - (slen + xlen))).toList hnc1 (by simp [zeroCells_size, hz]) w.heap.size (none_of_size hs)⟩
    have := new_inv hs (old ++ l ++ (Builtin.zeroCells (k.val k.zero).cells (nc - (slen + xlen))).toList) e (w.drawn + 1)
    have e1 : (old ++ l ++ (Builtin.zeroCells (k.val k.zero).cells (nc - (slen + xlen))).toList).toArray = old.toArray ++ l.toArray ++ Builtin.zeroCells (k.val k.zero).cells (nc - (slen + xlen)) := by
      apply Array.ext'; simp
    rw [e1] at this
    exact this

theorem copy_sound {P : Program} {argTypes : Array TypeId} {T e : TypeId} {k : Kd} (hT : argTypes[0]? = some T) (hu : P.underlying T = some (.slice e))
    (hk : kdOf P D e = some k) {h : Heap} {d s : Sl} {K : Int → Heap → Prop} (hm : copyM k.size h d s K) {w : World} (hs : Sub h w) (type : TypeId) :
    ∃ n h' w', (Builtin.copy_ argTypes type #[d.val, s.val]).run P w = .ok (.int .i64 n) w' ∧ Inv h w h' w' ∧ K n h' := by
  obtain ⟨l, hr, hone, hm⟩ := hm
  have hf := run_firstCells (P := P) hs hr
  obtain ⟨da, dlen, dcap⟩ := d
  obtain ⟨sa, slen, scap⟩ := s
  have e1 : Nat.min slen dlen = min slen dlen := rfl
  cases da with
  | none =>
    refine ⟨_, h, w, ?_, Inv.refl hs, hm⟩
    simp only [Sl.val] at hf
    simp [Builtin.copy_, hT, run_underlying' hu, Sl.val, Builtin.lenOf, run_sizeOf hk, e1, hf, goInt]
  | some a =>
    obtain ⟨hc, hK⟩ := hm
    obtain ⟨w', q1, q2⟩ := run_storeCells_h (P := P) hs hr.1 hc hone
    refine ⟨_, _, w', ?_, q2, hK⟩
    simp only [Sl.val] at hf
    simp [Builtin.copy_, hT, run_underlying' hu, Sl.val, Builtin.lenOf, run_sizeOf hk, e1, hf, goInt, q1]

theorem flatten_rep (l : List Value) (n : Nat) (hl : l.length ≠ 0) : (Array.range (n * l.length)).map (fun j => l.toArray[j % l.toArray.size]!) = ((List.replicate n l).flatten).toArray := by
  apply Array.ext
  · simp
  · intro i h1 h2
    simp at h1
    simp only [Array.getElem_map, Array.getElem_range, List.size_toArray]
    have hlt : i % l.length < l.length := Nat.mod_lt _ (by omega)
    rw [getElem!_pos l.toArray (i % l.length) (by simpa using hlt)]
    simp only [List.getElem_toArray]
    have key : ∀ (n i : Nat), i < n * l.length → ((List.replicate n l).flatten)[i]? = l[i % l.length]? := by
      intro n
      induction n with
      | zero => intro i h; simp at h
      | succ n ih =>
        intro i h
        rw [List.replicate_succ, List.flatten_cons]
        by_cases c : i < l.length
        · rw [List.getElem?_append_left c, Nat.mod_eq_of_lt c]
        · rw [List.getElem?_append_right (by omega), ih _ (by rw [Nat.succ_mul] at h; omega)]
          rw [← Nat.mod_eq_sub_mod (a := i) (b := l.length) (by omega)]
    have := key n i h1
    rw [List.getElem?_eq_getElem (by simpa using h1), List.getElem?_eq_getElem hlt] at this
    exact (Option.some.inj this).symm

section
variable {P : Program} {argTypes : Array TypeId} {T T' e : TypeId} {ik kn : IntKind} {i : TypeInfo} {k : Kd} (hT : argTypes[0]? = some T) (hu : P.underlying T = some (.slice e))
    (hT' : argTypes[1]? = some T') (hu' : P.underlying T' = some (.int ik)) (hk : kdOf P D e = some k) (hi : P.info? e = some i) (hb : i.bytes ≠ 0) (hz : k.size ≠ 0)
    (type : TypeId) {w : World} {sa : Option Addr} {sl sc : Nat} {n : Int} (h0 : 0 ≤ n) (hn : (sl + n.toNat) * i.bytes ≤ 140737488355328)
include hT hu hT' hu' hk hi hb hz h0 hn
theorem run_appendz_fit (c : sl + n.toNat ≤ sc) {w' : World}
    (hst : match sa with
      | some a => (storeCells (a.add (sl * k.size)) ((List.replicate n.toNat (k.cells k.zero)).flatten)).run P w = .ok () w'
      | none => w' = w) :
    (Builtin.append_ argTypes type #[.slice sa sl sc, .int kn n]).run P w = .ok (.slice sa (sl + n.toNat) sc) w' := by
  have hti : ∀ w, (typeInfo e).run P w = .ok i w := fun w => by simp [typeInfo, hi]
  have hb1 : 1 ≤ i.bytes := Nat.one_le_iff_ne_zero.2 hb
  have hle : n.toNat * i.bytes ≤ 140737488355328 := Nat.le_trans (Nat.mul_le_mul_right _ (by omega)) hn
  have hle1 : n.toNat ≤ 140737488355328 := Nat.le_trans (Nat.le_mul_of_pos_right _ (by omega)) hle
  have hwr : IntKind.i64.wrap n = n := by simp [IntKind.wrap, IntKind.bits, IntKind.signed]; omega
  have hnb : ¬ n * (i.bytes : Int) > 2 ^ 48 := by
    have : n * (i.bytes : Int) = ((n.toNat * i.bytes : Nat) : Int) := by rw [Int.natCast_mul]; congr 1; omega
    rw [this]; omega
  have hrep := flatten_rep (k.cells k.zero) n.toNat (by rw [Kd.cells_len]; exact hz)
  have hcs : (k.val k.zero).cells = (k.cells k.zero).toArray := by
    by_cases ha : k.isAgg = true
    · rw [Kd.val_agg ha]; rfl
    · have ha : k.isAgg = false := by simpa using ha
      rw [Kd.cells_one ha]
      cases k <;> first | rfl | cases ha
  have hzc : Builtin.zeroCells (k.val k.zero).cells n.toNat = ((List.replicate n.toNat (k.cells k.zero)).flatten).toArray := by
    rw [← hrep, hcs]
    simp [Builtin.zeroCells, Kd.cells_len]
  have hz0 : n.toNat * k.size = 0 → n.toNat = 0 := fun c0 => by rcases Nat.mul_eq_zero.1 c0 with h | h; exact h; exact absurd h hz
  unfold Builtin.append_
  simp only [hT, hT', List.getElem?_toArray, List.getElem?_cons_zero, List.getElem?_cons_succ, Sem.run_bind, run_underlying' hu, run_underlying' hu', Result.andThen_ok, run_sizeOf hk, Sem.run_pure, if_true, asInt, asIntOf, Go.asInt, hwr, show ¬ n < 0 from by omega, hti, hnb, if_false, Bool.not_true, Bool.false_eq_true, c]
  by_cases c0 : n.toNat * k.size = 0
  · have n0 := hz0 c0
    rw [n0] at hst
    cases sa with
    | none =>
      dsimp only at hst
      subst hst
      simp [c0]
    | some a =>
      dsimp only at hst
      simp [n0] at hst
      simp [c0, n0, hst]
  · cases sa with
    | none =>
      dsimp only at hst
      subst hst
      simp only [c0, if_false, Sem.run_bind, run_zeroValue hk, Result.andThen_ok, Sem.run_pure]
    | some a =>
      dsimp only at hst
      simp only [c0, if_false, Sem.run_bind, run_zeroValue hk, Result.andThen_ok, Sem.run_pure, hzc, hst]
theorem run_appendz_grow (c : ¬ sl + n.toNat ≤ sc) {old : Array Value} {nc : Nat}
    (hc : (choose (.appendCap (sl + n.toNat) sc e)).run P w = .ok nc { w with drawn := w.drawn + 1 })
    (ho : (Builtin.firstCells k.size sl (.slice sa sl sc)).run P { w with drawn := w.drawn + 1 } = .ok old { w with drawn := w.drawn + 1 }) :
    (Builtin.append_ argTypes type #[.slice sa sl sc, .int kn n]).run P w =
      .ok (.slice (some ⟨w.heap.size, 0, none⟩) (sl + n.toNat) nc) { w with heap := w.heap.push (.cells (old ++ ((List.replicate n.toNat (k.cells k.zero)).flatten).toArray ++ Builtin.zeroCells (k.val k.zero).cells (nc - (sl + n.toNat))) e), drawn := w.drawn + 1 } := by
  have hti : ∀ w, (typeInfo e).run P w = .ok i w := fun w => by simp [typeInfo, hi]
  have hb1 : 1 ≤ i.bytes := Nat.one_le_iff_ne_zero.2 hb
  have hle : n.toNat * i.bytes ≤ 140737488355328 := Nat.le_trans (Nat.mul_le_mul_right _ (by omega)) hn
  have hle1 : n.toNat ≤ 140737488355328 := Nat.le_trans (Nat.le_mul_of_pos_right _ (by omega)) hle
  have hle2 : sl + n.toNat ≤ 140737488355328 := Nat.le_trans (Nat.le_mul_of_pos_right _ (by omega)) hn
  have hwr : IntKind.i64.wrap n = n := by simp [IntKind.wrap, IntKind.bits, IntKind.signed]; omega
  have hnb : ¬ n * (i.bytes : Int) > 2 ^ 48 := by
    have : n * (i.bytes : Int) = ((n.toNat * i.bytes : Nat) : Int) := by rw [Int.natCast_mul]; congr 1; omega
    rw [this]; omega
  have hrep := flatten_rep (k.cells k.zero) n.toNat (by rw [Kd.cells_len]; exact hz)
  have hcs : (k.val k.zero).cells = (k.cells k.zero).toArray := by
    by_cases ha : k.isAgg = true
    · rw [Kd.val_agg ha]; rfl
    · have ha : k.isAgg = false := by simpa using ha
      rw [Kd.cells_one ha]
      cases k <;> first | rfl | cases ha
  have hzc : Builtin.zeroCells (k.val k.zero).cells n.toNat = ((List.replicate n.toNat (k.cells k.zero)).flatten).toArray := by
    rw [← hrep, hcs]
    simp [Builtin.zeroCells, Kd.cells_len]
  have hz0 : n.toNat * k.size = 0 → n.toNat = 0 := fun c0 => by rcases Nat.mul_eq_zero.1 c0 with h | h; exact h; exact absurd h hz
  have hmx : ¬ ((sl + n.toNat : Nat) : Int) > IntKind.i64.max := by
    have : IntKind.i64.max = 9223372036854775807 := by decide
    rw [this]; omega
  have hnc := nextslicecap_le (need := sl + n.toNat) (c := sc) (by omega)
  have hnb2 : ¬ Builtin.nextslicecap (sl + n.toNat) sc * i.bytes > 2 ^ 48 := by
    have h3 : Builtin.nextslicecap (sl + n.toNat) sc * i.bytes ≤ 2 * (sl + n.toNat) * i.bytes := Nat.mul_le_mul_right _ hnc
    rw [Nat.mul_assoc] at h3
    omega
  unfold Builtin.append_
  simp only [hT, hT', List.getElem?_toArray, List.getElem?_cons_zero, List.getElem?_cons_succ, Sem.run_bind, run_underlying' hu, run_underlying' hu', Result.andThen_ok, run_sizeOf hk, Sem.run_pure, if_true, asInt, asIntOf, Go.asInt, hwr, show ¬ n < 0 from by omega, hti, hnb, if_false, Bool.not_true, Bool.false_eq_true, c, hmx, false_and, hnb2, hc, run_askRoom, ho]
  by_cases c0 : n.toNat * k.size = 0
  · have n0 := hz0 c0
    simp only [n0, Nat.zero_mul, if_true, Sem.run_bind, run_zeroValue hk, Result.andThen_ok, Sem.run_pure, newRow, run_newObj, List.replicate_zero, List.flatten_nil]
  · simp only [c0, if_false, Sem.run_bind, run_zeroValue hk, Result.andThen_ok, Sem.run_pure, hzc, newRow, run_newObj]
end

theorem appendz_sound {P : Program} {argTypes : Array TypeId} {T T' e : TypeId} {ik kn : IntKind} {i : TypeInfo} {k : Kd} (hT : argTypes[0]? = some T) (hu : P.underlying T = some (.slice e))
    (hT' : argTypes[1]? = some T') (hu' : P.underlying T' = some (.int ik))
    (hk : kdOf P D e = some k) (hi : P.info? e = some i) (hb : i.bytes ≠ 0) (hz : k.size ≠ 0) {h : Heap} {s : Sl} {n : Int} {K : Sl → Heap → Prop} (hm : appendZM k i.bytes h s n K)
    {w : World} (hs : Sub h w) (type : TypeId) :
    ∃ s' h' w', (Builtin.append_ argTypes type #[s.val, .int kn n]).run P w = .ok s'.val w' ∧ Inv h w h' w' ∧ K s' h' := by
  obtain ⟨h0, hbound, hone0, h1, h2⟩ := hm
  have hone : ∀ v ∈ (List.replicate n.toNat (k.cells k.zero)).flatten, v.oneCell' = true := by
    intro v hv
    obtain ⟨l, hl, hv⟩ := List.mem_flatten.1 hv
    rw [List.eq_of_mem_replicate hl] at hv
    exact hone0 v hv
  obtain ⟨sa, slen, scap⟩ := s
  dsimp only at h1 h2 hbound
  by_cases c : slen + n.toNat ≤ scap
  · have h1 := h1 c
    cases sa with
    | none => exact ⟨⟨none, slen + n.toNat, scap⟩, h, w, run_appendz_fit hT hu hT' hu' hk hi hb hz type h0 hbound c (sa := none) rfl, Inv.refl hs, h1⟩
    | some a =>
      obtain ⟨hc, hK⟩ := h1
      obtain ⟨w', q1, q2⟩ := run_storeCells_h (P := P) hs (by simp [Kd.cells_len]) hc hone
      exact ⟨⟨some a, slen + n.toNat, scap⟩, _, w', run_appendz_fit hT hu hT' hu' hk hi hb hz type h0 hbound c (sa := some a) q1, q2, hK⟩
  · obtain ⟨old, hro, hK⟩ := h2 (by omega)
    obtain ⟨nc, hnc1, hch⟩ : ∃ nc, slen + n.toNat ≤ nc ∧ (choose (.appendCap (slen + n.toNat) scap e)).run P w = .ok nc { w with drawn := w.drawn + 1 } :=
      ⟨(Question.appendCap (slen + n.toNat) scap e).cut (w.tape w.drawn (.appendCap (slen + n.toNat) scap e)), by simp [Question.cut], by simp [Question.forced]⟩
    have hzs : (k.val k.zero).cells.size = k.size := by
      by_cases ha : k.isAgg = true
      · rw [Kd.val_agg ha]; simp [Value.cells, Kd.cells_len]
      · cases k <;> first | rfl | (exact absurd rfl ha)
    have hs' : Sub h { w with drawn := w.drawn + 1 } := hs
    have hold := run_firstCells (P := P) hs' hro
    have hrun := run_appendz_grow hT hu hT' hu' hk hi hb hz type (kn := kn) h0 hbound (sa := sa) c hch hold
    refine ⟨⟨some ⟨w.heap.size, 0, none⟩, slen + n.toNat, nc⟩, _, _, hrun, ?_,
      hK nc (Builtin.zeroCells (k.val k.zero).cells (nc - (slen + n.toNat))).toList hnc1 (by simp [zeroCells_size, hzs]) w.heap.size (none_of_size hs)⟩
    have := new_inv hs (old ++ (List.replicate n.toNat (k.cells k.zero)).flatten ++ (Builtin.zeroCells (k.val k.zero).cells (nc - (slen + n.toNat))).toList) e (w.drawn + 1)
    have e1 : (old ++ (List.replicate n.toNat (k.cells k.zero)).flatten ++ (Builtin.zeroCells (k.val k.zero).cells (nc - (slen + n.toNat))).toList).toArray = old.toArray ++ ((List.replicate n.toNat (k.cells k.zero)).flatten).toArray ++ Builtin.zeroCells (k.val k.zero).cells (nc - (slen + n.toNat)) := by
      apply Array.ext'; simp
    rw [e1] at this
    exact this

theorem make_sound {P : Program} {T e : TypeId} {i : TypeInfo} {k : Kd} (hu : P.underlying T = some (.slice e)) (hk : kdOf P D e = some k) (hi : P.info? e = some i) (hz : k.size ≠ 0)
    {h : Heap} {kn kc : IntKind} {n c : Int} {K : Sl → Heap → Prop} (hm : makeM k i.bytes h n c K) {w : World} (hs : Sub h w) :
    ∃ s' h' w', (Instr.makeSlice T (.int kn n) (.int kc c)).run P w = .ok s'.val w' ∧ Inv h w h' w' ∧ K s' h' := by
  obtain ⟨⟨h1, h2, h3, h4⟩, hK⟩ := hm
  have hti : ∀ w, (typeInfo e).run P w = .ok i w := fun w => by simp [typeInfo, hi]
  have wn : IntKind.i64.wrap n = n := by simp [IntKind.wrap, IntKind.bits, IntKind.signed]; omega
  have wc : IntKind.i64.wrap c = c := by simp [IntKind.wrap, IntKind.bits, IntKind.signed]; omega
  have hcs : (k.val k.zero).cells = (k.cells k.zero).toArray := by
    by_cases ha : k.isAgg = true
    · rw [Kd.val_agg ha]; rfl
    · have ha : k.isAgg = false := by simpa using ha
      rw [Kd.cells_one ha]
      cases k <;> first | rfl | cases ha
  refine ⟨⟨some ⟨w.heap.size, 0, none⟩, n.toNat, c.toNat⟩, _, { w with heap := w.heap.push (.cells ((List.replicate c.toNat (k.cells k.zero)).flatten).toArray e) }, ?_, ?_, hK w.heap.size (none_of_size hs)⟩
  · simp only [Instr.makeSlice, Sem.run_bind, run_underlying' hu, Result.andThen_ok, asInt, asIntOf, Go.asInt, Sem.run_pure, hti, wn, wc]
    rw [Sem.run_ite, if_neg (by simp; omega)]
    simp only [Sem.run_bind, Sem.run_pure, run_askRoom, Result.andThen_ok, run_sizeOf hk]
    have hrep := flatten_rep (k.cells k.zero) c.toNat (by rw [Kd.cells_len]; exact hz)
    rw [Kd.cells_len] at hrep
    by_cases hc0 : c.toNat * k.size = 0
    · have : c.toNat = 0 := by rcases Nat.mul_eq_zero.1 hc0 with h | h; exact h; exact absurd h hz
      have e0 : Array.map (fun _ => (default : Value)) (Array.range 0) = #[] := by simp [Array.range]
      simp [this, newRow, Sl.val, e0]
    · simp only [hc0, if_false, Sem.run_bind, run_zeroValue hk, Result.andThen_ok, Sem.run_pure, newRow, run_newObj, hcs, hrep, Sl.val]
  · exact new_inv hs _ e w.drawn

end Go.Mx
