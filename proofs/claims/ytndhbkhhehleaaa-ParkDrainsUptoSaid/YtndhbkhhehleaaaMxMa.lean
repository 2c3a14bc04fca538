/-
  Maps: what a look-up and a store come to, for keys that are whole numbers or arrays of such.
-/
import Derived.Test.YtndhbkhhehleaaaMxQ
import Derived.MapKept
set_option linter.unusedVariables false
set_option linter.unusedSimpArgs false
namespace Go.Mx
open Go.MapKept (run_getObj_map run_setObj_map)

def tvVal (k : Kd) (t : TV) : Option (Den k) :=
  match t with
  | .v k' x => if h : k' = k then some (h ▸ x) else none
  | .kb b => if h : Kd.bool = k then some (h ▸ b) else none
  | _ => none
theorem tvVal_spec {κ : Nat → Nat} {k : Kd} {t : TV} {x : Den k} (h : tvVal k t = some x) {u : Value} (r : Rl κ t u) : u = k.val x := by
  unfold tvVal at h
  split at h
  · split at h
    · rename_i hk
      subst hk
      cases h
      exact r
    · cases h
  · split at h
    · rename_i hk
      subst hk
      cases h
      exact r
    · cases h
  · cases h

def keyOk (P : Program) (T : TypeId) (k : Kd) : Bool :=
  match P.underlying T, k with
  | some (.int _), .int _ => true
  | some (.array m e), .arr m' (.int j) => Nat.beq m' m && (match P.underlying e with | some (.int _) => true | _ => false) && (match kdOf P D e with | some k => decide (k = .int j) | none => false) && eqOk P D T (.arr m' (.int j))
  | _, _ => false

theorem checkKey_gen {P : Program} {T : TypeId} {k : Kd} (hk : keyOk P T k = true) (b : Bool) (n : Nat) (x : Den k) (w : World) : (Instr.checkKey b (n + 2) T (k.val x)).run P w = .ok () w := by
  unfold keyOk at hk
  split at hk
  · rename_i j j' hT
    simp [Instr.checkKey, run_underlying' hT, Kd.val]
  · rename_i m e m' j hT
    simp only [Bool.and_eq_true] at hk
    obtain ⟨⟨⟨h1, h2⟩, h3⟩, h4⟩ := hk
    have h1 := Nat.eq_of_beq_eq_true h1
    subst h1
    split at h2
    · rename_i j2 he
      split at h3
      · rename_i k hke
        have h3 := of_decide_eq_true h3
        subst h3
        have part_at : ∀ (i : Nat) (hi : i < m') w, (part e (Kd.cells (.arr m' (.int j)) x).toArray (i * 1)).run P w = .ok (.int j (x ⟨i, hi⟩)) w := by
          intro i hi w
          have hget : (List.ofFn x)[i]? = some (x ⟨i, hi⟩) := by rw [List.getElem?_ofFn, dif_pos hi]
          obtain ⟨p, r, hp, hlen⟩ := flatMap_at (Kd.cells (.int j)) 1 (fun _ => rfl) _ _ _ hget
          exact run_part hke (by simp only [Kd.cells]; exact hp) hlen w
        show (Instr.checkKey b (n + 1 + 1) T (.agg (Kd.cells (.arr m' (.int j)) x).toArray)).run P w = _
        simp only [Instr.checkKey, Sem.run_bind, run_underlying' hT, Result.andThen_ok, run_sizeOf hke]
        rw [Std.Legacy.Range.forIn_eq_forIn_range']
        simp only [Std.Legacy.Range.size, Nat.sub_zero, Nat.add_one_sub_one, Nat.div_one]
        have key : ∀ (f : Nat → PUnit → Sem (ForInStep PUnit)), (∀ i, i < m' → ∀ w u, (f i u).run P w = .ok (.yield PUnit.unit) w) → ∀ (c s : Nat), s + c = m' → ∀ w, (forIn (List.range' s c) PUnit.unit f).run P w = .ok PUnit.unit w := by
          intro f hf c
          induction c with
          | zero => intro s hs w; simp
          | succ c ih =>
            intro s hs w
            simp only [List.range'_succ, List.forIn_cons, Sem.run_bind, hf s (by omega), Result.andThen_ok]
            exact ih (s + 1) (by omega) w
        rw [key _ (fun i hi w u => ?_) m' 0 (by omega) w]
        · rfl
        · have hp := part_at i hi w
          rw [show i * 1 = i * Kd.size (.int j) from rfl] at hp
          simp only [Sem.run_bind, run_sizeOf hke, Result.andThen_ok, hp, run_underlying' he, Sem.run_pure]
      · cases h3
    · cases h2
  · cases hk

theorem run_checkKey {P : Program} {T : TypeId} {k : Kd} (hk : keyOk P T k = true) (b : Bool) (x : Den k) (w : World) : (Instr.checkKey b 10000 T (k.val x)).run P w = .ok () w := by
  have gen : ∀ n, (Instr.checkKey b (n + 2) T (k.val x)).run P w = .ok () w := fun n => checkKey_gen hk b n x w
  exact gen 9998

def fi (kk : Kd) {β : Type} (key : Den kk) : List (Den kk × β) → Nat → Option (Nat × β)
  | [], _ => none
  | p :: l, i => bif eqK kk key p.1 then some (i, p.2) else fi kk key l (i + 1)
def entOk (kk kv : Kd) (es : List MapEntry) (l : List (Den kk × Den kv)) : Prop := es.map (fun e => (e.key, e.val)) = l.map fun p => (kk.val p.1, kv.val p.2)
theorem entOk_cons {kk kv : Kd} {e : MapEntry} {es : List MapEntry} {l : List (Den kk × Den kv)} (h : entOk kk kv (e :: es) l) : ∃ p l', l = p :: l' ∧ e.key = kk.val p.1 ∧ e.val = kv.val p.2 ∧ entOk kk kv es l' := by
  unfold entOk at h
  cases l with
  | nil => simp at h
  | cons p l =>
    simp only [List.map_cons, List.cons.injEq, Prod.mk.injEq] at h
    exact ⟨p, l, rfl, h.1.1, h.1.2, h.2⟩

theorem findNow_int {kv : Kd} {j : IntKind} {d : IntKind} (key : Int) : ∀ (es : List MapEntry) (l : List (Den (.int j) × Den kv)) (i : Nat), entOk (.int j) kv es l →
    Instr.findNow (.int d) (.int j key) es i = some ((fi (.int j) key l i).map fun p => (p.1, kv.val p.2))
  | [], l, i, h => by
    cases l with
    | nil => rfl
    | cons p l => simp [entOk] at h
  | e :: es, l, i, h => by
    obtain ⟨p, l', rfl, h1, h2, h3⟩ := entOk_cons h
    have ih := findNow_int (d := d) key es l' (i + 1) h3
    have h1 : e.key = .int j p.1 := h1
    simp only [Instr.findNow, h1, Instr.sameNow, if_true]
    cases c : (key == p.1)
    · dsimp only
      rw [ih]
      have : eqK (.int j) key p.1 = false := by simpa [eqK] using c
      simp only [fi, this, cond_false]
    · dsimp only
      have : eqK (.int j) key p.1 = true := by simpa [eqK] using c
      simp only [fi, this, cond_true, h2, Option.map_some]
theorem findAsking_run {P : Program} {T : TypeId} {kk kv : Kd} (hq : ∀ (x y : Den kk) w, (Op.equal T (kk.val x) (kk.val y)).run P w = .ok (eqK kk x y) w) (key : Den kk) : ∀ (es : List MapEntry) (l : List (Den kk × Den kv)) (i : Nat) (w : World), entOk kk kv es l →
    (Instr.findAsking T (kk.val key) es i).run P w = .ok ((fi kk key l i).map fun p => (p.1, kv.val p.2)) w
  | [], l, i, w, h => by
    cases l with
    | nil => rfl
    | cons p l => simp [entOk] at h
  | e :: es, l, i, w, h => by
    obtain ⟨p, l', rfl, h1, h2, h3⟩ := entOk_cons h
    have ih := findAsking_run hq key es l' (i + 1) w h3
    simp only [Instr.findAsking, Sem.run_bind, h1, hq, Result.andThen_ok]
    cases c : eqK kk key p.1
    · simp only [Bool.false_eq_true, if_false, ih, fi, c, cond_false]
    · simp only [if_true, Sem.run_pure, fi, c, cond_true, h2, Option.map_some]

theorem run_findKey {P : Program} {T : TypeId} {kk kv : Kd} (hk : keyOk P T kk = true) (key : Den kk) {es : List MapEntry} {l : List (Den kk × Den kv)} (h : entOk kk kv es l) (w : World) :
    (Instr.findKey T (kk.val key) es).run P w = .ok ((fi kk key l 0).map fun p => (p.1, kv.val p.2)) w := by
  unfold keyOk at hk
  split at hk
  · rename_i d j hT
    simp only [Instr.findKey, Sem.run_bind, run_underlying' hT, Result.andThen_ok, Kd.val]
    rw [findNow_int key es l 0 h]
    rfl
  · rename_i m et m' j hT
    simp only [Bool.and_eq_true] at hk
    have hq : ∀ (x y : Den (.arr m' (.int j))) w, (Op.equal T (Kd.val (.arr m' (.int j)) x) (Kd.val (.arr m' (.int j)) y)).run P w = .ok (eqK (.arr m' (.int j)) x y) w := fun x y w => eqOk_sound D T _ hk.2 10000 (by decide) x y w
    simp only [Instr.findKey, Sem.run_bind, run_underlying' hT, Result.andThen_ok]
    cases es with
    | nil =>
      cases l with
      | nil => rfl
      | cons p l => simp [entOk] at h
    | cons e es =>
      have : Instr.findNow (.array m et) (Kd.val (.arr m' (.int j)) key) (e :: es) 0 = none := by
        simp [Instr.findNow, Instr.sameNow]
      rw [this]
      exact findAsking_run hq key (e :: es) l 0 w h
  · cases hk

theorem eqK_key {P : Program} {T : TypeId} {kk : Kd} (hk : keyOk P T kk = true) {x y : Den kk} (h : eqK kk x y = true) : x = y := by
  unfold keyOk at hk
  split at hk
  · exact of_decide_eq_true h
  · simp only [eqK, List.all_eq_true, List.mem_finRange, true_implies] at h
    exact funext fun i => of_decide_eq_true (h i)
  · cases hk
theorem sameBits_gen {P : Program} {T : TypeId} {kk : Kd} (hk : keyOk P T kk = true) (x : Den kk) (n : Nat) : Instr.sameBits (n + 2) (kk.val x) (kk.val x) = true := by
  unfold keyOk at hk
  split at hk
  · simp [Instr.sameBits, Kd.val]
  · show Instr.sameBits (n + 1 + 1) (.agg _) (.agg _) = true
    simp only [Instr.sameBits, beq_self_eq_true, Bool.true_and, List.all_eq_true]
    intro p hp
    obtain ⟨u, v⟩ := p
    have e : u = v := by
      obtain ⟨i', hi, e⟩ := List.mem_iff_getElem.1 hp
      rw [List.getElem_zip] at e
      cases e; rfl
    subst e
    have hu := (List.of_mem_zip hp).1
    simp only [Kd.cells, List.mem_flatMap, List.toList_toArray] at hu
    obtain ⟨z, _, hz⟩ := hu
    simp at hz
    subst hz
    simp [Kd.val, Instr.sameBits]
  · cases hk

theorem sameBits_key {P : Program} {T : TypeId} {kk : Kd} (hk : keyOk P T kk = true) (x : Den kk) : Instr.sameBits 10000 (kk.val x) (kk.val x) = true := sameBits_gen hk x 9998

def bornOk (es : List MapEntry) (c : Nat) : Prop := (es.map (·.born)).Nodup ∧ ∀ x ∈ es.map (·.born), x < c
def MapIs (h : Heap) (b : Nat) (kk kv : Kd) (l : List (Den kk × Den kv)) : Prop := ∃ es c, h b = some (.map es c) ∧ entOk kk kv es.toList l ∧ bornOk es.toList c
def mapAt (kk kv : Kd) (h : Heap) (m : Option Nat) (key : Den kk) (K : Den kv → Bool → Prop) : Prop :=
  match m with
  | none => K kv.zero false
  | some b => ∃ l, MapIs h b kk kv l ∧ K (((fi kk key l 0).map (·.2)).getD kv.zero) (fi kk key l 0).isSome
def mapPutL (kk : Kd) {β : Type} (l : List (Den kk × β)) (key : Den kk) (v : β) : List (Den kk × β) :=
  match fi kk key l 0 with
  | some (i, _) => l.set i (key, v)
  | none => l ++ [(key, v)]
def mapPut (kk kv : Kd) (h : Heap) (m : Option Nat) (key : Den kk) (v : Den kv) (K : Heap → Prop) : Prop :=
  match m with
  | none => False
  | some b => ∃ l, MapIs h b kk kv l ∧ ∀ h', MapIs h' b kk kv (mapPutL kk l key v) → (∀ c, c ≠ b → h' c = h c) → K h'
def mapNew (h : Heap) (K : Nat → Heap → Prop) : Prop := ∀ b, h b = none → K b (upd h b (.map #[] 0))

theorem MapIs.world {h : Heap} {w : World} (s : Sub h w) {b : Nat} {kk kv : Kd} {l : List (Den kk × Den kv)} (m : MapIs h b kk kv l) : ∃ es c, h b = some (.map es c) ∧ w.heap[b]? = some (.map es c) ∧ entOk kk kv es.toList l ∧ bornOk es.toList c := by
  obtain ⟨es, c, h1, h2⟩ := m
  obtain ⟨x, hx, rfl⟩ := s b _ h1
  exact ⟨es, c, h1, hx, h2⟩

theorem run_lookup {P : Program} {T kt et : TypeId} {kk kv : Kd} (hT : P.underlying T = some (.map kt et)) (hk : keyOk P kt kk = true) (hv : kdOf P D et = some kv) {h : Heap} {m : Option Nat} {key : Den kk} {K : Den kv → Bool → Prop} (hm : mapAt kk kv h m key K)
    (ck : Bool) : ∃ x b, K x b ∧ ∀ w, Sub h w → (Instr.lookup T (.map m) (kk.val key) ck).run P w = .ok (if ck then .tuple #[kv.val x, .bool b] else kv.val x) w := by
  cases m with
  | none =>
    refine ⟨_, _, hm, fun w s => ?_⟩
    have hf := run_findKey (P := P) (kv := kv) hk key (es := []) (l := []) rfl w
    simp only [Instr.lookup, Sem.run_bind, run_underlying' hT, Result.andThen_ok, Sem.run_pure, run_checkKey hk]
    have hf : (Instr.findKey kt (kk.val key) (#[] : Array MapEntry).toList).run P w = .ok none w := hf
    simp only [hf, Result.andThen_ok, Sem.run_bind, run_zeroValue hv, Sem.run_pure]
  | some b =>
    obtain ⟨l, hl, hm⟩ := hm
    refine ⟨_, _, hm, fun w s => ?_⟩
    obtain ⟨es, c, _, h2, h3, _⟩ := hl.world s
    have hf := run_findKey (P := P) hk key h3 w
    simp only [Instr.lookup, Sem.run_bind, run_underlying' hT, Result.andThen_ok, run_getObj_map h2, Sem.run_pure, run_checkKey hk, hf]
    cases e : fi kk key l 0 with
    | none => simp [run_zeroValue hv]
    | some p => simp

theorem run_keyStays {P : Program} {u v : Value} (h : Instr.sameBits 10000 u v = true) (w : World) : (Instr.keyThatStays u v).run P w = .ok v w := by
  unfold Instr.keyThatStays
  rw [if_pos h]; rfl
theorem fi_spec {kk : Kd} {β : Type} {key : Den kk} : ∀ {l : List (Den kk × β)} {i j : Nat} {v : β}, fi kk key l i = some (j, v) → ∃ n p, j = i + n ∧ l[n]? = some p ∧ eqK kk key p.1 = true ∧ p.2 = v
  | [], i, j, v, h => by cases h
  | p :: l, i, j, v, h => by
    simp only [fi] at h
    cases c : eqK kk key p.1
    · rw [c] at h
      obtain ⟨n, q, h1, h2, h3, h4⟩ := fi_spec (l := l) (i := i + 1) h
      exact ⟨n + 1, q, by omega, by simpa using h2, h3, h4⟩
    · rw [c] at h
      cases h
      exact ⟨0, p, rfl, rfl, c, rfl⟩

theorem map_inv {h : Heap} {w : World} (s : Sub h w) {b : Nat} {es es' : Array MapEntry} {c c' : Nat} (hb : h b = some (.map es c)) (hw : w.heap[b]? = some (.map es c)) : Inv h w (upd h b (.map es' c')) { w with heap := w.heap.setIfInBounds b (.map es' c') } where
  sub x o e := by
    by_cases hx : x = b
    · subst hx
      rw [upd_same] at e; cases e
      have hlt := (Array.getElem?_eq_some_iff.1 hw).1
      exact ⟨_, by rw [Array.getElem?_setIfInBounds, if_pos rfl, if_pos hlt], rfl⟩
    · rw [upd_ne h _ hx] at e
      obtain ⟨y, h1, h2⟩ := s x o e
      exact ⟨y, by rw [Array.getElem?_setIfInBounds, if_neg (fun e => hx e.symm)]; exact h1, h2⟩
  size := by simp
  keep x hx e := by
    have hne : x ≠ b := fun e' => by subst e'; rw [hb] at e; cases e
    exact ⟨by rw [Array.getElem?_setIfInBounds, if_neg (fun e => hne e.symm)], by rw [upd_ne h _ hne]; exact e⟩
  tag x hx := by
    by_cases e : x = b
    · subst e
      have hlt := (Array.getElem?_eq_some_iff.1 hw).1
      rw [Array.getElem?_setIfInBounds, if_pos rfl, if_pos hlt, hw]; rfl
    · rw [Array.getElem?_setIfInBounds, if_neg (fun q => e q.symm)]
  os := rfl
  tape := rfl
  out := rfl

theorem bornOk_push {es : Array MapEntry} {c : Nat} (h : bornOk es.toList c) {k v : Value} : bornOk (es.push { key := k, val := v, born := c }).toList (c + 1) := by
  unfold bornOk at *
  rw [Array.toList_push, List.map_append, List.nodup_append]
  refine ⟨⟨h.1, by simp, fun x hx y hy => ?_⟩, fun x hx => ?_⟩
  · have : y = c := by simpa using hy
    have := h.2 x hx
    omega
  · rcases List.mem_append.1 hx with hx | hx
    · have := h.2 x hx; omega
    · have : x = c := by simpa using hx
      omega
theorem born_modify (es : Array MapEntry) (i : Nat) (k v : Value) : (es.modify i fun e => { e with key := k, val := v }).toList.map (·.born) = es.toList.map (·.born) := by
  apply List.ext_getElem?
  intro j
  rw [List.getElem?_map, List.getElem?_map, Array.getElem?_toList, Array.getElem?_toList, Array.getElem?_modify]
  by_cases e : i = j
  · subst e
    rw [if_pos rfl]
    cases es[i]? <;> rfl
  · rw [if_neg e]
theorem bornOk_modify {es : Array MapEntry} {c i : Nat} (h : bornOk es.toList c) {k v : Value} : bornOk (es.modify i fun e => { e with key := k, val := v }).toList c := by
  unfold bornOk at *
  rw [born_modify]; exact h
theorem mapPut_sound {P : Program} {T kt et : TypeId} {kk kv : Kd} (hT : P.underlying T = some (.map kt et)) (hk : keyOk P kt kk = true) {h : Heap} {m : Option Nat} {key : Den kk} {v : Den kv} {K : Heap → Prop} (hm : mapPut kk kv h m key v K)
    {w : World} (s : Sub h w) : ∃ h' w', (Instr.mapUpdate T (.map m) (kk.val key) (kv.val v)).run P w = .ok () w' ∧ Inv h w h' w' ∧ K h' := by
  cases m with
  | none => exact hm.elim
  | some b =>
    obtain ⟨l, hl, hm⟩ := hm
    obtain ⟨es, c, h1, h2, h3, h4⟩ := hl.world s
    have hf := run_findKey (P := P) hk key h3 w
    have h3' : es.toList.map (fun e => (e.key, e.val)) = l.map fun p => (kk.val p.1, kv.val p.2) := h3
    cases e : fi kk key l 0 with
    | none =>
      rw [e] at hf
      refine ⟨upd h b (.map (es.push { key := kk.val key, val := kv.val v, born := c }) (c + 1)), _, ?_, map_inv s h1 h2, hm _ ⟨_, _, upd_same _ _ _, ?_, bornOk_push h4⟩ fun x hx => upd_ne _ _ hx⟩
      · simp only [Instr.mapUpdate, Sem.run_bind, run_underlying' hT, Result.andThen_ok, run_getObj_map h2, run_checkKey hk, hf, Option.map_none, run_setObj_map _ h2]
      · unfold entOk mapPutL
        rw [e]
        simp [h3']
    | some p =>
      obtain ⟨i, u⟩ := p
      rw [e] at hf
      obtain ⟨n, q, q1, q2, q3, q4⟩ := fi_spec e
      rw [Nat.zero_add] at q1
      subst q1
      have hlen : es.toList.length = l.length := by
        have := congrArg List.length h3'
        simpa using this
      have hil : i < l.length := (List.getElem?_eq_some_iff.1 q2).1
      have hie : i < es.size := by rw [← hlen] at hil; simpa using hil
      have hkey : (es[i]?).map (·.key) = some (kk.val q.1) := by
        have := congrArg (fun l => l[i]?) h3'
        simp only [List.getElem?_map, q2, Option.map_some] at this
        rw [Array.getElem?_toList] at this
        rw [Array.getElem?_eq_getElem hie] at this ⊢
        simp only [Option.map_some, Option.some.injEq, Prod.mk.injEq] at this
        simp [this.1]
      have hsame : q.1 = key := (eqK_key hk q3).symm
      refine ⟨upd h b (.map (es.modify i fun e => { e with key := kk.val key, val := kv.val v }) c), _, ?_, map_inv s h1 h2, hm _ ⟨_, _, upd_same _ _ _, ?_, bornOk_modify h4⟩ fun x hx => upd_ne _ _ hx⟩
      · simp only [Instr.mapUpdate, Sem.run_bind, run_underlying' hT, Result.andThen_ok, run_getObj_map h2, run_checkKey hk, hf, Option.map_some, hkey, Option.getD_some, hsame, run_keyStays (sameBits_key hk key), run_setObj_map _ h2]
      · unfold entOk mapPutL
        rw [e]
        dsimp only
        apply List.ext_getElem?
        intro j
        rw [List.getElem?_map, List.getElem?_map, Array.getElem?_toList, Array.getElem?_modify, List.getElem?_set]
        by_cases cj : i = j
        · subst cj
          rw [if_pos rfl, if_pos rfl, if_pos hil, Array.getElem?_eq_getElem hie]
          rfl
        · rw [if_neg cj, if_neg cj]
          have := congrArg (fun l => l[j]?) h3'
          simp only [List.getElem?_map] at this
          rw [Array.getElem?_toList] at this
          exact this

def mapDelL (kk : Kd) {β : Type} (l : List (Den kk × β)) (key : Den kk) : List (Den kk × β) :=
  match fi kk key l 0 with
  | some (i, _) => l.eraseIdx i
  | none => l
def mapDel (kk kv : Kd) (h : Heap) (m : Option Nat) (key : Den kk) (K : Heap → Prop) : Prop :=
  match m with
  | none => False
  | some b => ∃ l, MapIs h b kk kv l ∧ ∀ h', MapIs h' b kk kv (mapDelL kk l key) → (∀ c, c ≠ b → h' c = h c) → K h'
theorem bornOk_erase {es : Array MapEntry} {c i : Nat} (h : bornOk es.toList c) : bornOk (es.eraseIdxIfInBounds i).toList c := by
  have e : (es.eraseIdxIfInBounds i).toList = es.toList.eraseIdx i := by
    unfold Array.eraseIdxIfInBounds
    split
    · simp
    · rename_i hn
      rw [List.eraseIdx_of_length_le (by simpa using hn)]
  unfold bornOk at *
  rw [e]
  have s : ((es.toList.eraseIdx i).map (·.born)).Sublist (es.toList.map (·.born)) := (List.eraseIdx_sublist ..).map _
  exact ⟨h.1.sublist s, fun x hx => h.2 x (s.subset hx)⟩
theorem map_eraseIdx' {α β : Type} (f : α → β) : ∀ (l : List α) (i : Nat), (l.eraseIdx i).map f = (l.map f).eraseIdx i
  | [], _ => rfl
  | _ :: _, 0 => rfl
  | a :: l, i + 1 => by rw [List.eraseIdx_cons_succ, List.map_cons, List.map_cons, List.eraseIdx_cons_succ, map_eraseIdx' f l i]
theorem mapDel_sound {P : Program} {T kt et : TypeId} {kk kv : Kd} (hT : P.underlying T = some (.map kt et)) (hk : keyOk P kt kk = true) {h : Heap} {m : Option Nat} {key : Den kk} {K : Heap → Prop} (hm : mapDel kk kv h m key K) (ty : TypeId) {tys : Array TypeId} (hT0 : tys[0]? = some T)
    {w : World} (s : Sub h w) : ∃ h' w', (Builtin.delete_ tys ty #[.map m, kk.val key]).run P w = .ok (.tuple #[]) w' ∧ Inv h w h' w' ∧ K h' := by
  cases m with
  | none => exact hm.elim
  | some b =>
    obtain ⟨l, hl, hm⟩ := hm
    obtain ⟨es, c, h1, h2, h3, h4⟩ := hl.world s
    have hf := run_findKey (P := P) hk key h3 w
    have h3' : es.toList.map (fun e => (e.key, e.val)) = l.map fun p => (kk.val p.1, kv.val p.2) := h3
    cases e : fi kk key l 0 with
    | none =>
      rw [e] at hf
      refine ⟨upd h b (.map es c), _, ?_, map_inv s h1 h2, hm _ ⟨_, _, upd_same _ _ _, ?_, h4⟩ fun x hx => upd_ne _ _ hx⟩
      · simp only [Builtin.delete_, hT0, List.getElem?_toArray, List.getElem?_cons_zero, List.getElem?_cons_succ, Sem.run_bind, run_underlying' hT, Result.andThen_ok, run_getObj_map h2, run_checkKey hk, hf, Option.map_none, run_setObj_map _ h2, Sem.run_pure]
      · unfold mapDelL; rw [e]; exact h3
    | some p =>
      obtain ⟨i, u⟩ := p
      rw [e] at hf
      refine ⟨upd h b (.map (es.eraseIdxIfInBounds i) c), _, ?_, map_inv s h1 h2, hm _ ⟨_, _, upd_same _ _ _, ?_, bornOk_erase h4⟩ fun x hx => upd_ne _ _ hx⟩
      · simp only [Builtin.delete_, hT0, List.getElem?_toArray, List.getElem?_cons_zero, List.getElem?_cons_succ, Sem.run_bind, run_underlying' hT, Result.andThen_ok, run_getObj_map h2, run_checkKey hk, hf, Option.map_some, run_setObj_map _ h2, Sem.run_pure]
      · unfold mapDelL entOk
        rw [e]
        dsimp only
        have e2 : (es.eraseIdxIfInBounds i).toList = es.toList.eraseIdx i := by
          unfold Array.eraseIdxIfInBounds
          split
          · simp
          · rename_i hn
            rw [List.eraseIdx_of_length_le (by simpa using hn)]
        rw [e2, map_eraseIdx', h3', map_eraseIdx']
def delI (P : Program) (argTypes : Array TypeId) (args : List TV) (h : Heap) (K : Heap → Prop) : Prop :=
  match argTypes[0]?, args with
  | some T, [.v .map m, i] => match P.underlying T with
    | some (.map kt et) => match kdOf P D kt, kdOf P D et with
      | some kk, some kv => bif keyOk P kt kk then match tvVal kk i with
        | some key => mapDel kk kv h m key K
        | none => False else False
      | _, _ => False
    | _ => False
  | _, _ => False

def lookM (P : Program) (T : TypeId) (x i : TV) (ck : Bool) (h : Heap) (K : TV → Prop) : Prop :=
  match P.underlying T with
  | some (.map kt et) => match kdOf P D kt, kdOf P D et with
    | some kk, some kv => bif keyOk P kt kk then match x with
      | .v .map m => match tvVal kk i with
        | some key => mapAt kk kv h m key fun y b => K (bif ck then .tup (.pair kv (.pair .bool .nil)) (y, (b, ())) else .v kv y)
        | none => False
      | _ => False else False
    | _, _ => False
  | _ => False
def putI (P : Program) (T : TypeId) (x i v : TV) (h : Heap) (K : Heap → Prop) : Prop :=
  match P.underlying T with
  | some (.map kt et) => match kdOf P D kt, kdOf P D et with
    | some kk, some kv => bif keyOk P kt kk then match x with
      | .v .map m => match tvVal kk i, tvVal kv v with
        | some key, some y => mapPut kk kv h m key y K
        | _, _ => False
      | _ => False else False
    | _, _ => False
  | _ => False
def mkMapI (P : Program) (T : TypeId) (h : Heap) (K : Nat → Heap → Prop) : Prop :=
  match P.underlying T with
  | some (.map _ _) => mapNew h K
  | _ => False

theorem lookM_sound {P : Program} {κ : Nat → Nat} {T : TypeId} {x i : TV} {ck : Bool} {h : Heap} {K : TV → Prop} (hm : lookM P T x i ck h K) {u v : Value} (hu : Rl κ x u) (hv : Rl κ i v) :
    ∃ tv r, K tv ∧ Rl κ tv r ∧ ∀ w, Sub h w → (Instr.lookup T u v ck).run P w = .ok r w := by
  unfold lookM at hm
  split at hm
  · rename_i kt et hT
    split at hm
    · rename_i kk kv hk hv'
      cases hc : keyOk P kt kk
      · rw [hc] at hm; exact hm.elim
      rw [hc] at hm
      simp only [cond_true] at hm
      split at hm
      · rename_i m
        split at hm
        · rename_i key hkey
          obtain rfl := tvVal_spec hkey hv
          obtain rfl := hu
          obtain ⟨y, b, h1, h2⟩ := run_lookup hT hc hv' hm ck
          refine ⟨_, _, h1, ?_, h2⟩
          cases ck <;> rfl
        · exact hm.elim
      · exact hm.elim
    · exact hm.elim
  · exact hm.elim
theorem putI_sound {P : Program} {κ : Nat → Nat} {T : TypeId} {x i y : TV} {h : Heap} {K : Heap → Prop} (hm : putI P T x i y h K) {u v z : Value} (hu : Rl κ x u) (hv : Rl κ i v) (hz : Rl κ y z) {w : World} (s : Sub h w) :
    ∃ h' w', (Instr.mapUpdate T u v z).run P w = .ok () w' ∧ Inv h w h' w' ∧ K h' := by
  unfold putI at hm
  split at hm
  · rename_i kt et hT
    split at hm
    · rename_i kk kv hk hv'
      cases hc : keyOk P kt kk
      · rw [hc] at hm; exact hm.elim
      rw [hc] at hm
      simp only [cond_true] at hm
      split at hm
      · rename_i m
        split at hm
        · rename_i key y' hkey hy
          obtain rfl := tvVal_spec hkey hv
          obtain rfl := tvVal_spec hy hz
          obtain rfl := hu
          exact mapPut_sound hT hc hm s
        · exact hm.elim
      · exact hm.elim
    · exact hm.elim
  · exact hm.elim

end Go.Mx
