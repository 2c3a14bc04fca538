/-
  buffers.Memory: what it is, as plain data and in the heap.
-/
import Derived.Test.YtppehoailhjdfabMxBa
import Derived.Test.YtppehoailhjdfabMxAs
set_option linter.unusedVariables false
set_option linter.unusedSimpArgs false
set_option linter.unusedSectionVars false
namespace Go.Mx

/-! ### arrays in objects -/
def aput {n : Nat} {α : Type} (f : Fin n → α) (i : Nat) (v : α) : Fin n → α := fun j => if j.val = i then v else f j
theorem aput_at {n : Nat} {α : Type} (f : Fin n → α) {i : Nat} (v : α) (j : Fin n) (h : j.val = i) : aput f i v j = v := if_pos h
theorem aput_ne {n : Nat} {α : Type} (f : Fin n → α) {i : Nat} (v : α) (j : Fin n) (h : j.val ≠ i) : aput f i v j = f j := if_neg h
theorem ofFn_aput {n : Nat} {α : Type} (f : Fin n → α) (i : Nat) (v : α) : List.ofFn (aput f i v) = (List.ofFn f).set i v := by
  refine List.ext_getElem (by simp) fun j h1 h2 => ?_
  rw [List.getElem_ofFn, List.getElem_set, List.getElem_ofFn]
  unfold aput
  by_cases e : j = i
  · rw [if_pos e, if_pos e.symm]
  · rw [if_neg e, if_neg fun q => e q.symm]
theorem Obj.ldArr {h : Heap} {b : Nat} {k ka : Kd} {x : Den k} (o : Obj h b k x) {n off : Nat} {f : Fin n → Den ka} (hp : PartAt k (.arr n ka) off x f) {i : Nat} (hi : i < n) {K : Den ka → Prop} (hK : K (f ⟨i, hi⟩)) {a : Addr} (ha : a = (ptr b).add (off + i * ka.size)) : Go.Mx.ld ka h a K := by
  obtain ⟨pre, post, e1, e2⟩ := hp
  subst ha
  obtain ⟨p, r, h1, h2⟩ := flatMap_at ka.cells ka.size ka.cells_len (List.ofFn f) i (f ⟨i, hi⟩) (by rw [List.getElem?_ofFn, dif_pos hi])
  refine o.ld (kf := ka) ⟨pre ++ p, r ++ post, ?_, by rw [List.length_append, e2, h2]⟩ hK
  rw [e1]
  show pre ++ (List.ofFn f).flatMap ka.cells ++ post = _
  rw [h1]; simp only [List.append_assoc]
theorem Obj.stArr {h : Heap} {b : Nat} {k ka : Kd} {x x' : Den k} (o : Obj h b k x) {n off : Nat} {f : Fin n → Den ka} {i : Nat} (hi : i < n) {v : Den ka} (hone : ka.flat = true)
    (hp : ∃ pre post, k.cells x = pre ++ Kd.cells (.arr n ka) f ++ post ∧ k.cells x' = pre ++ Kd.cells (.arr n ka) (aput f i v) ++ post ∧ pre.length = off) {K : Heap → Prop}
    (hK : ∀ h', Obj h' b k x' → Ext (· = b) h h' → K h') {a : Addr} (ha : a = (ptr b).add (off + i * ka.size)) : Go.Mx.st ka h a v K := by
  obtain ⟨pre, post, e1, e2, e3⟩ := hp
  subst ha
  have l1 : (Kd.cells (.arr n ka) f).length = n * ka.size := Kd.cells_len (.arr n ka) f
  have hle : i * ka.size + ka.size ≤ n * ka.size := by
    have : (i + 1) * ka.size ≤ n * ka.size := Nat.mul_le_mul_right _ hi
    rwa [Nat.succ_mul] at this
  refine o.st (kf := ka) ?_ ?_ hone hK
  · rw [e1, e2, ← e3, splice_mid _ _ _ _ _ (by rw [l1, Kd.cells_len]; exact hle)]
    congr 2
    show (List.ofFn (aput f i v)).flatMap ka.cells = splice ((List.ofFn f).flatMap ka.cells) (i * ka.size) (ka.cells v)
    rw [ofFn_aput]
    have := splice_at (k := ka) (ys := List.ofFn f) (i := i) (y := v) (by simpa using hi) []
    rw [List.append_nil, List.append_nil] at this
    exact this.symm
  · have := congrArg List.length e1
    rw [Kd.cells_len, List.length_append, List.length_append, l1] at this
    omega

/-! ### the memory -/
abbrev KWt : Kd := .pair ki (.pair ki .nil)
abbrev Wait := Den KWt
abbrev KPl : Kd := .pair .ptr (.pair ki .nil)
abbrev KVw : Kd := .pair KPl .nil
abbrev KBm : Kd := .pair .ptr (.pair ki (.pair ki (.pair (.arr 8 .sl) (.pair (.arr 8 KVw) .nil))))
abbrev KEf : Kd := .pair ki (.pair .bool (.pair ki .nil))
abbrev Eff := Den KEf
abbrev KMv : Kd := .pair ki (.pair ki (.pair ki (.pair ki (.pair ki .nil))))
abbrev AMv := Den KMv

/-- Cells whose stores wait, as plain data. -/
structure BM where
  n : Nat
  room : Nat
  sz : Int
  cs : List Int
  lg : List Acc
  wt : Bool
  q : Nat → List Wait
def BM.In (M : BM) (a : Int) : Prop := 0 ≤ a ∧ a < (M.cs.length : Int)
instance (M : BM) (a : Int) : Decidable (M.In a) := by unfold BM.In; infer_instance
def BM.setq (M : BM) (k : Nat) (l : List Wait) : BM := { M with q := fun j => if j = k then l else M.q j }
def BM.log (M : BM) (a : Acc) : BM := { M with lg := wl M.wt M.lg a }
def BM.at' (M : BM) (a : Int) : Int := M.cs[a.toNat]?.getD 0
def BM.flush (M : BM) (k : Nat) : BM := match M.q k with
  | [] => M
  | w :: r => BM.log { M.setq k r with cs := M.cs.set w.1.toNat w.2.1 } ((k : Int), (1, (w.1, (w.2.1, (0, (true, ()))))))
def BM.drainN (k : Nat) : Nat → BM → BM
  | 0, M => M
  | i + 1, M => drainN k i (M.flush k)
def BM.drain (M : BM) (k : Nat) : BM := BM.drainN k (M.q k).length M
/-- What an actor sees waiting in a cell: its youngest. -/
def seenW (l : List Wait) (a : Int) : Option Int := (l.reverse.find? fun w => decide (w.1 = a)).map fun w => w.2.1
def BM.load (M : BM) (k : Nat) (a : Int) : BM × (Int × Int) := if M.In a then match seenW (M.q k) a with
    | some v => (M, (v, 0))
    | none => (M.log ((k : Int), (0, (a, (M.at' a, (0, (true, ())))))), (M.at' a, 0))
  else (M, (0, 20))
def BM.store (M : BM) (k : Nat) (a v : Int) : BM × Int := if M.In a then
    let M1 := if M.room ≤ (M.q k).length then M.flush k else M
    (M1.setq k (M1.q k ++ [(a, (v, ()))]), 0)
  else (M, 20)
def BM.cas (M : BM) (k : Nat) (a x y : Int) : BM × (Bool × Int) := if M.In a then
    let M1 := M.drain k
    (BM.log { M1 with cs := if M1.at' a = x then M1.cs.set a.toNat y else M1.cs } ((k : Int), (2, (a, (x, (y, (decide (M1.at' a = x), ())))))), (decide (M1.at' a = x), 0))
  else (M, (false, 20))
def BM.add (M : BM) (k : Nat) (a d : Int) : BM × (Int × Int) := if M.In a then
    let M1 := M.drain k
    (BM.log { M1 with cs := M1.cs.set a.toNat (w64 (M1.at' a + d)) } ((k : Int), (3, (a, (d, (w64 (M1.at' a + d), (true, ())))))), (w64 (M1.at' a + d), 0))
  else (M, (0, 20))
def BM.reserve (M : BM) (k : Nat) (n : Int) : BM × (Int × Int) := if n < 1 then (M, (0, 21)) else if M.sz - (M.cs.length : Int) < n then (M, (0, 22)) else
    let M1 := M.drain k
    (BM.log { M1 with cs := M1.cs ++ List.replicate n.toNat 0 } ((k : Int), (4, ((M1.cs.length : Int), (n, (0, (true, ())))))), ((M1.cs.length : Int), 0))
def ef (v e : Int) : Eff := (v, (decide (e = 0), (e, ())))
def BM.act (M : BM) (k : Nat) (t : AMv) : BM × Eff :=
  if t.2.1 = 0 then ((M.load k t.2.2.1).1, ef (M.load k t.2.2.1).2.1 (M.load k t.2.2.1).2.2)
  else if t.2.1 = 1 then ((M.store k t.2.2.1 t.2.2.2.1).1, ef 0 (M.store k t.2.2.1 t.2.2.2.1).2)
  else if t.2.1 = 2 then ((M.cas k t.2.2.1 t.2.2.2.1 t.2.2.2.2.1).1, (0, ((M.cas k t.2.2.1 t.2.2.2.1 t.2.2.2.2.1).2.1, ((M.cas k t.2.2.1 t.2.2.2.1 t.2.2.2.2.1).2.2, ()))))
  else if t.2.1 = 3 then ((M.add k t.2.2.1 t.2.2.2.1).1, ef (M.add k t.2.2.1 t.2.2.2.1).2.1 (M.add k t.2.2.1 t.2.2.2.1).2.2)
  else if t.2.1 = 4 then ((M.reserve k t.2.2.2.1).1, ef (M.reserve k t.2.2.2.1).2.1 (M.reserve k t.2.2.2.1).2.2)
  else if t.2.1 = 5 then (M.drain k, ef 0 0)
  else (M, ef 0 23)

/-- What holds of it always; L: how long the log is at most. -/
structure BM.Ok (M : BM) (L : Nat) : Prop where
  n8 : M.n ≤ 8
  r1 : 1 ≤ M.room
  r64 : M.room ≤ 64
  cs : (M.cs.length : Int) ≤ M.sz
  sz : M.sz ≤ 1048576
  lg : M.lg.length ≤ L
  ql : ∀ k, (M.q k).length ≤ M.room
  qin : ∀ k, ∀ w ∈ M.q k, M.In w.1
  qout : ∀ k, M.n ≤ k → M.q k = []
theorem BM.Ok.mono {M : BM} {L L' : Nat} (o : M.Ok L) (h : L ≤ L') : M.Ok L' := { o with lg := Nat.le_trans o.lg h }
theorem wl_lenB (wt : Bool) (lg : List Acc) (a : Acc) : (wl wt lg a).length ≤ lg.length + 1 := by
  unfold wl
  split
  · simp
  · omega
theorem BM.Ok.log {M : BM} {L : Nat} (o : M.Ok L) (a : Acc) : (M.log a).Ok (L + 1) :=
  ⟨o.n8, o.r1, o.r64, o.cs, o.sz, by have := wl_lenB M.wt M.lg a; have := o.lg; show (wl M.wt M.lg a).length ≤ _; omega, o.ql, o.qin, o.qout⟩
theorem BM.Ok.cells {M : BM} {L : Nat} (o : M.Ok L) {cs : List Int} (h1 : M.cs.length ≤ cs.length) (h2 : (cs.length : Int) ≤ M.sz) : BM.Ok { M with cs := cs } L :=
  ⟨o.n8, o.r1, o.r64, h2, o.sz, o.lg, o.ql, fun k w hw => by have := o.qin k w hw; unfold BM.In at *; dsimp only; omega, o.qout⟩
theorem BM.Ok.setq {M : BM} {L : Nat} (o : M.Ok L) {k : Nat} {l : List Wait} (hk : k < M.n) (h1 : l.length ≤ M.room) (h2 : ∀ w ∈ l, M.In w.1) : (M.setq k l).Ok L := by
  refine ⟨o.n8, o.r1, o.r64, o.cs, o.sz, o.lg, fun j => ?_, fun j w hw => ?_, fun j hj => ?_⟩
  · show (if j = k then l else M.q j).length ≤ _
    split
    · exact h1
    · exact o.ql j
  · have hw : w ∈ (if j = k then l else M.q j) := hw
    split at hw
    · exact h2 w hw
    · exact o.qin j w hw
  · show (if j = k then l else M.q j) = _
    rw [if_neg (by have : M.n ≤ j := hj; omega)]
    exact o.qout j hj
theorem BM.flush_nil {M : BM} {k : Nat} (h : M.q k = []) : M.flush k = M := by unfold BM.flush; rw [h]
theorem BM.flush_cons {M : BM} {k : Nat} {w : Wait} {r : List Wait} (h : M.q k = w :: r) : M.flush k = BM.log { M.setq k r with cs := M.cs.set w.1.toNat w.2.1 } ((k : Int), (1, (w.1, (w.2.1, (0, (true, ())))))) := by unfold BM.flush; rw [h]
theorem BM.Ok.lt {M : BM} {L : Nat} (o : M.Ok L) {k : Nat} (h : M.q k ≠ []) : k < M.n := Nat.lt_of_not_le fun q => h (o.qout k q)
theorem BM.Ok.flush {M : BM} {L : Nat} (o : M.Ok L) (k : Nat) : (M.flush k).Ok (L + 1) := by
  cases e : M.q k with
  | nil => rw [BM.flush_nil e]; exact o.mono (by omega)
  | cons w r =>
    rw [BM.flush_cons e]
    have hk : k < M.n := o.lt (by rw [e]; exact fun q => by cases q)
    have h1 := o.ql k
    rw [e, List.length_cons] at h1
    have o1 := o.setq hk (l := r) (by omega) fun w' hw => o.qin k w' (by rw [e]; exact .tail _ hw)
    exact BM.Ok.log (BM.Ok.cells o1 (cs := M.cs.set w.1.toNat w.2.1) (by rw [List.length_set]; exact Nat.le_refl _) (by rw [List.length_set]; exact o.cs)) _
theorem BM.flush_same (M : BM) (k : Nat) : (M.flush k).n = M.n ∧ (M.flush k).room = M.room ∧ (M.flush k).sz = M.sz ∧ (M.flush k).wt = M.wt ∧ (M.flush k).cs.length = M.cs.length ∧ (∀ j, j ≠ k → (M.flush k).q j = M.q j) ∧ (M.flush k).q k = (M.q k).drop 1 := by
  cases e : M.q k with
  | nil => rw [BM.flush_nil e]; exact ⟨rfl, rfl, rfl, rfl, rfl, fun _ _ => rfl, by rw [e]; rfl⟩
  | cons w r => rw [BM.flush_cons e]; exact ⟨rfl, rfl, rfl, rfl, List.length_set .., fun j hj => if_neg hj, if_pos rfl⟩
theorem BM.drainN_ok {k : Nat} : ∀ (i : Nat) {M : BM} {L : Nat}, M.Ok L → (BM.drainN k i M).Ok (L + i)
  | 0, _, _, o => o
  | i + 1, M, L, o => by
    have := drainN_ok (k := k) i (o.flush k)
    rwa [Nat.add_assoc, Nat.add_comm 1 i] at this
theorem BM.drainN_same {k : Nat} : ∀ (i : Nat) (M : BM), (BM.drainN k i M).n = M.n ∧ (BM.drainN k i M).room = M.room ∧ (BM.drainN k i M).sz = M.sz ∧ (BM.drainN k i M).wt = M.wt ∧ (BM.drainN k i M).cs.length = M.cs.length ∧ (∀ j, j ≠ k → (BM.drainN k i M).q j = M.q j) ∧ (BM.drainN k i M).q k = (M.q k).drop i
  | 0, M => ⟨rfl, rfl, rfl, rfl, rfl, fun _ _ => rfl, rfl⟩
  | i + 1, M => by
    obtain ⟨a1, a2, a3, a4, a5, a6, a7⟩ := drainN_same i (M.flush k)
    obtain ⟨b1, b2, b3, b4, b5, b6, b7⟩ := M.flush_same k
    exact ⟨a1.trans b1, a2.trans b2, a3.trans b3, a4.trans b4, a5.trans b5, fun j hj => (a6 j hj).trans (b6 j hj), by rw [BM.drainN, a7, b7, List.drop_drop, Nat.add_comm]⟩
theorem BM.drain_same (M : BM) (k : Nat) : (M.drain k).n = M.n ∧ (M.drain k).room = M.room ∧ (M.drain k).sz = M.sz ∧ (M.drain k).wt = M.wt ∧ (M.drain k).cs.length = M.cs.length ∧ (∀ j, j ≠ k → (M.drain k).q j = M.q j) ∧ (M.drain k).q k = [] := by
  obtain ⟨a1, a2, a3, a4, a5, a6, a7⟩ := BM.drainN_same (k := k) (M.q k).length M
  exact ⟨a1, a2, a3, a4, a5, a6, by rw [BM.drain, a7, List.drop_of_length_le (Nat.le_refl _)]⟩
theorem BM.Ok.drain {M : BM} {L : Nat} (o : M.Ok L) (k : Nat) : (M.drain k).Ok (L + 64) := (BM.drainN_ok _ o).mono (by have := o.ql k; have := o.r64; omega)

/-! ### in the heap -/
def vsOf (b n : Nat) : Fin 8 → Den KVw := fun i => if i.val < n then ((some (ptr b), ((i.val : Int), ())), ()) else ((none, (0, ())), ())
structure BmS (h0 h : Heap) (bm ba : Nat) (c l : Sl) (who : Int) (qs : Fin 8 → Sl) (M : BM) : Prop where
  obj : Obj h bm KBm (some (ptr ba), ((M.n : Int), ((M.room : Int), (qs, (vsOf bm M.n, ())))))
  ar : Ar h0 h ba c l M.sz M.cs M.lg who M.wt
  q : ∀ i : Fin 8, Tl h0 h KWt (qs i) (M.q i.val)
  nb : h0 bm = none
  d : ¬ fpA ba c l bm
  dm : ∀ i, ¬ blkOf (qs i) bm
  dq : ∀ i x, blkOf (qs i) x → ¬ fpA ba c l x
  dd : ∀ i j, i ≠ j → Apart (qs i) (qs j)
def fpB (bm ba : Nat) (c l : Sl) (qs : Fin 8 → Sl) : Nat → Prop := fun x => x = bm ∨ fpA ba c l x ∨ ∃ i, blkOf (qs i) x
section
variable {h0 h : Heap} {bm ba : Nat} {c l : Sl} {who : Int} {qs : Fin 8 → Sl} {M : BM} (o : BmS h0 h bm ba c l who qs M)
include o
theorem BmS.live {x : Nat} (hx : fpB bm ba c l qs x) : h x ≠ none := by
  rcases hx with rfl | hx | ⟨i, hx⟩
  · exact o.obj.live
  · exact o.ar.live hx
  · exact (o.q i).own.blk hx
theorem BmS.fresh {x : Nat} (hx : fpB bm ba c l qs x) : h0 x = none := by
  rcases hx with rfl | hx | ⟨i, hx⟩
  · exact o.nb
  · exact o.ar.fresh hx
  · exact (o.q i).new x hx
theorem BmS.le : Go.Mx.le h0 h := o.ar.le
theorem BmS.ext {h' : Heap} {S : Nat → Prop} (e : Ext S h h') (n : ∀ x, fpB bm ba c l qs x → ¬ S x) (f : ∀ x, S x → h0 x = none) : BmS h0 h' bm ba c l who qs M :=
  ⟨o.obj.ext e (n bm (.inl rfl)), o.ar.ext e (fun x hx => n x (.inr (.inl hx))) f, fun i => (o.q i).ext e (fun x hx => n x (.inr (.inr ⟨i, hx⟩))) f, o.nb, o.d, o.dm, o.dq, o.dd⟩
theorem BmS.more {h' : Heap} (e : Go.Mx.le h h') : BmS h0 h' bm ba c l who qs M :=
  ⟨o.obj.le e, o.ar.more e, fun i => (o.q i).more e, o.nb, o.d, o.dm, o.dq, o.dd⟩
/-- The arena does something. -/
theorem BmS.arena {h' : Heap} {c' l' : Sl} {who' : Int} {M' : BM} (a : Ar h0 h' ba c' l' M'.sz M'.cs M'.lg who' M'.wt) (s : Step (fpA ba c l) (fpA ba c' l') h h') (e1 : M'.n = M.n) (e2 : M'.room = M.room) (e3 : M'.q = M.q) :
    BmS h0 h' bm ba c' l' who' qs M' ∧ Step (fpB bm ba c l qs) (fpB bm ba c' l' qs) h h' := by
  have f : ∀ x, fpA ba c l x → h0 x = none := fun x hx => o.ar.fresh hx
  have off := fun T d l => Step.off s (T := T) d l
  refine ⟨⟨by rw [e1, e2]; exact o.obj.ext s.1 o.d, a, fun i => by rw [e3]; exact (o.q i).ext s.1 (o.dq i) f, o.nb, off (· = bm) (fun x e => by subst e; exact o.d) (fun x e => by subst e; exact o.obj.live) bm rfl, o.dm,
    fun i => off (blkOf (qs i)) (o.dq i) (fun x hx => (o.q i).own.blk hx), o.dd⟩, s.1.mono fun x hx => .inr (.inl hx), fun x hx => ?_⟩
  rcases hx with hx | hx | hx
  · exact .inl (.inl hx)
  · exact (s.2 x hx).imp (fun q => .inr (.inl q)) id
  · exact .inl (.inr (.inr hx))
theorem BmS.ldA {K : Option Addr → Prop} (hK : K (some (ptr ba))) : ld .ptr h ((ptr bm).add 0) K := o.obj.ld (kf := .ptr) ⟨[], _, rfl, rfl⟩ hK
theorem BmS.ldN {K : Int → Prop} (hK : K M.n) : ld ki h ((ptr bm).add 1) K := o.obj.ld (kf := ki) (y := (M.n : Int)) ⟨[.pointer (some (ptr ba))], _, rfl, rfl⟩ hK
theorem BmS.ldR {K : Int → Prop} (hK : K M.room) : ld ki h ((ptr bm).add 2) K := o.obj.ld (kf := ki) (y := (M.room : Int)) ⟨[.pointer (some (ptr ba)), .int .i64 M.n], _, rfl, rfl⟩ hK
theorem BmS.ldQ {i : Nat} (hi : i < 8) {K : Sl → Prop} (hK : K (qs ⟨i, hi⟩)) : ld .sl h (((ptr bm).add 3).add (i * 1)) K := by
  refine o.obj.ldArr (ka := .sl) (f := qs) (off := 3) ⟨[.pointer (some (ptr ba)), .int .i64 M.n, .int .i64 M.room], _, rfl, rfl⟩ hi hK ?_
  rw [add_add']; rfl
end
/-- The view of an actor. -/
abbrev vptr (bm k : Nat) : Addr := ⟨bm, 11 + k * 2, none⟩
theorem vw_ldP {h : Heap} {bm n : Nat} {p : Option Addr} {r : Int} {qs : Fin 8 → Sl} (ob : Obj h bm KBm (p, ((n : Int), (r, (qs, (vsOf bm n, ())))))) {k : Nat} (hk : k < n) (h8 : n ≤ 8) {K : Den KPl → Prop} (hK : K (some (ptr bm), ((k : Int), ()))) : ld KPl h ((vptr bm k).add 0) K := by
  have h1 : k < 8 := by omega
  have : ld KVw h ((ptr bm).add (11 + k * 2)) fun y => y = vsOf bm n ⟨k, h1⟩ := by
    refine ob.ldArr (ka := KVw) (f := vsOf bm n) (off := 11) (K := fun y => y = vsOf bm n ⟨k, h1⟩) ⟨.pointer p :: .int .i64 n :: .int .i64 r :: (Kd.cells (.arr 8 .sl) qs), [], ?_, ?_⟩ h1 rfl rfl
    · show _ :: _ :: _ :: (_ ++ _) = _; simp [Kd.cells]
    · show _ + 3 = 11; rw [Kd.cells_len]; rfl
  obtain ⟨y, h2, rfl⟩ := this
  refine ⟨_, ?_, hK⟩
  rw [add_none, Nat.zero_add] at h2
  rw [add_none, Nat.add_zero]
  have : vsOf bm n ⟨k, h1⟩ = ((some (ptr bm), ((k : Int), ())), ()) := if_pos hk
  rw [this] at h2
  exact h2
theorem vw_ldV {h : Heap} {bm n : Nat} {p : Option Addr} {r : Int} {qs : Fin 8 → Sl} (ob : Obj h bm KBm (p, ((n : Int), (r, (qs, (vsOf bm n, ())))))) {k : Nat} (hk : k < n) (h8 : n ≤ 8) {K : Option Addr → Prop} (hK : K (some (ptr bm))) : ld .ptr h (((vptr bm k).add 0).add 0) K := by
  obtain ⟨y, h2, rfl⟩ := vw_ldP ob hk h8 (K := fun y => y = (some (ptr bm), ((k : Int), ()))) rfl
  exact ⟨_, (cellsAt_append (l := [.pointer (some (ptr bm))]) h2).1, hK⟩
theorem vw_ldK {h : Heap} {bm n : Nat} {p : Option Addr} {r : Int} {qs : Fin 8 → Sl} (ob : Obj h bm KBm (p, ((n : Int), (r, (qs, (vsOf bm n, ())))))) {k : Nat} (hk : k < n) (h8 : n ≤ 8) {K : Int → Prop} (hK : K (k : Int)) : ld ki h (((vptr bm k).add 0).add 1) K := by
  obtain ⟨y, h2, rfl⟩ := vw_ldP ob hk h8 (K := fun y => y = (some (ptr bm), ((k : Int), ()))) rfl
  exact ⟨_, (cellsAt_append (l := [.pointer (some (ptr bm))]) h2).2, hK⟩
theorem ld_sees {h : Heap} {k : Kd} {a : Addr} {y : Den k} (H : ld k h a fun z => z = y) : sees h (some a) k y := by
  obtain ⟨z, h1, rfl⟩ := H
  exact h1
section
variable {h0 h : Heap} {bm ba : Nat} {c l : Sl} {who : Int} {qs : Fin 8 → Sl} {M : BM} (o : BmS h0 h bm ba c l who qs M)
include o
theorem BmS.ldP {k : Nat} (hk : k < M.n) (h8 : M.n ≤ 8) {K : Den KPl → Prop} (hK : K (some (ptr bm), ((k : Int), ()))) : ld KPl h ((vptr bm k).add 0) K := vw_ldP o.obj hk h8 hK
theorem BmS.ldV {k : Nat} (hk : k < M.n) (h8 : M.n ≤ 8) {K : Option Addr → Prop} (hK : K (some (ptr bm))) : ld .ptr h (((vptr bm k).add 0).add 0) K := vw_ldV o.obj hk h8 hK
theorem BmS.ldK {k : Nat} (hk : k < M.n) (h8 : M.n ≤ 8) {K : Int → Prop} (hK : K (k : Int)) : ld ki h (((vptr bm k).add 0).add 1) K := vw_ldK o.obj hk h8 hK
/-- A queue is another. -/
theorem BmS.stQ {k : Nat} (h1 : k < 8) {h1' : Heap} {t : Sl} {ys : List Wait} (x : Ext (blkOf (qs ⟨k, h1⟩)) h h1') (nt : Tl h0 h1' KWt t ys) (b2 : ∀ b, blkOf t b → blkOf (qs ⟨k, h1⟩) b ∨ h b = none) {K : Heap → Prop}
    (hK : ∀ h', BmS h0 h' bm ba c l who (aput qs k t) (M.setq k ys) → Step (fpB bm ba c l qs) (fpB bm ba c l (aput qs k t)) h h' → K h') : st .sl h1' (((ptr bm).add 3).add (k * 1)) t K := by
  have o1 : Obj h1' bm KBm _ := o.obj.ext x (o.dm _)
  refine o1.stArr (ka := .sl) (f := qs) (off := 3) (x' := (some (ptr ba), ((M.n : Int), ((M.room : Int), (aput qs k t, (vsOf bm M.n, ())))))) h1 rfl ⟨[.pointer (some (ptr ba)), .int .i64 M.n, .int .i64 M.room], _, rfl, rfl, rfl⟩ (fun h' o' x' => ?_) (by rw [add_add']; rfl)
  have f1 : ∀ x, blkOf (qs ⟨k, h1⟩) x → h0 x = none := (o.q _).new
  have f2 : ∀ x, x = bm → h0 x = none := fun x e => by subst e; exact o.nb
  have tn : ∀ b, blkOf t b → b ≠ bm ∧ ¬ fpA ba c l b ∧ ∀ j : Fin 8, j.val ≠ k → ¬ blkOf (qs j) b := fun b hb => by
    rcases b2 b hb with q | q
    · exact ⟨fun e => by subst e; exact o.dm _ q, o.dq _ b q, fun j hj e => o.dd ⟨k, h1⟩ j (fun e => hj (by rw [← e])) b q e⟩
    · exact ⟨fun e => by subst e; exact o.obj.live q, fun e => o.ar.live e q, fun j hj e => (o.q j).own.blk e q⟩
  refine hK h' ⟨o', (o.ar.ext x (fun z p q => o.dq _ z q p) f1).ext x' (fun z p q => by subst q; exact o.d p) f2, fun i => ?_, o.nb, o.d, fun i => ?_, fun i z hz => ?_, fun i j hij z p q => ?_⟩ ⟨(x.mono fun z p => .inr (.inr ⟨_, p⟩)).trans (x'.mono fun z p => .inl p), fun z p => ?_⟩
  · by_cases e : i.val = k
    · rw [aput_at _ _ _ e]
      show Tl h0 h' KWt t (if i.val = k then ys else M.q i.val)
      rw [if_pos e]
      exact nt.ext x' (fun z p q => (tn z p).1 q) f2
    · rw [aput_ne _ _ _ e]
      show Tl h0 h' KWt (qs i) (if i.val = k then ys else M.q i.val)
      rw [if_neg e]
      exact ((o.q i).ext x (fun z p q => o.dd i ⟨k, h1⟩ (fun q => e (by rw [q])) z p q) f1).ext x' (fun z p q => by subst q; exact o.dm i p) f2
  · by_cases e : i.val = k
    · rw [aput_at _ _ _ e]; exact fun p => (tn bm p).1 rfl
    · rw [aput_ne _ _ _ e]; exact o.dm i
  · by_cases e : i.val = k
    · rw [aput_at _ _ _ e] at hz; exact (tn z hz).2.1
    · rw [aput_ne _ _ _ e] at hz; exact o.dq i z hz
  · by_cases e : i.val = k
    · rw [aput_at _ _ _ e] at p
      rw [aput_ne _ _ _ (fun e' => hij (Fin.ext (e.trans e'.symm)))] at q
      exact (tn z p).2.2 j (fun e' => hij (Fin.ext (e.trans e'.symm))) q
    · rw [aput_ne _ _ _ e] at p
      by_cases e' : j.val = k
      · rw [aput_at _ _ _ e'] at q
        exact (tn z q).2.2 i e p
      · rw [aput_ne _ _ _ e'] at q
        exact o.dd i j hij z p q
  · rcases p with p | p | ⟨i, p⟩
    · exact .inl (.inl p)
    · exact .inl (.inr (.inl p))
    · by_cases e : i.val = k
      · rw [aput_at _ _ _ e] at p
        exact (b2 z p).imp (fun q => .inr (.inr ⟨_, q⟩)) id
      · rw [aput_ne _ _ _ e] at p
        exact .inl (.inr (.inr ⟨i, p⟩))
end

end Go.Mx
