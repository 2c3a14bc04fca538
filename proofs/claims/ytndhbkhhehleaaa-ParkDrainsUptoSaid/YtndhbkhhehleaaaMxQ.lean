/-
  '==' of structs and arrays.
-/
import Derived.Test.YtndhbkhhehleaaaMxC
import Derived.Laws.StructEq
set_option linter.unusedVariables false
set_option linter.unusedSimpArgs false
namespace Go.Mx

def eqK : (k : Kd) → Den k → Den k → Bool
  | .int _, x, y => decide (x = y)
  | .bool, x, y => x == y
  | .str, x, y => x.toList == y.toList
  | .pair a b, x, y => eqK a x.1 y.1 && eqK b x.2 y.2
  | .arr n a, x, y => (List.finRange n).all fun i => eqK a (x i) (y i)
  | _, _, _ => true

def eqFs (P : Program) (rec : TypeId → Kd → Bool) : List Field → Kd → Nat → Bool
  | [], .nil, _ => true
  | f :: fs, .pair a b, off => !(f.name == "_") && Nat.beq f.offset off && (match kdOf P D f.type with | some k => decide (k = a) | none => false) && rec f.type a && eqFs P rec fs b (off + a.size)
  | _, _, _ => false
def eqOk (P : Program) : Nat → TypeId → Kd → Bool
  | 0, _, _ => false
  | n + 1, T, k => match P.underlying T with
    | some (.int _) => match k with | .int _ => true | _ => false
    | some .bool => match k with | .bool => true | _ => false
    | some .string => match k with | .str => true | _ => false
    | some (.struct fs) => k.isAgg && !(P.stoodInHeld T) && eqFs P (eqOk P n) fs.toList k 0
    | some (.array m e) => match k with
      | .arr m' a => Nat.beq m' m && (match kdOf P D e with | some k => decide (k = a) | none => false) && eqOk P n e a
      | _ => false
    | _ => false

theorem eqFields_sound {P : Program} {rec : TypeId → Kd → Bool} {d : Nat} (hrec : ∀ T k, rec T k = true → ∀ (x y : Den k) w, (Op.equalIn d T (k.val x) (k.val y)).run P w = .ok (eqK k x y) w) :
    ∀ (fs : List Field) (k : Kd) (off : Nat), eqFs P rec fs k off = true → ∀ (x y : Den k) (px py : List Value), px.length = off → py.length = off → ∀ w,
      (Op.eqFields d (px ++ k.cells x).toArray (py ++ k.cells y).toArray fs).run P w = .ok (eqK k x y) w
  | [], .nil, off, h, x, y, px, py, hx, hy, w => rfl
  | f :: fs, .pair a b, off, h, x, y, px, py, hx, hy, w => by
    simp only [eqFs, Bool.and_eq_true, Bool.not_eq_true'] at h
    obtain ⟨⟨⟨⟨h1, h2⟩, h3⟩, h4⟩, h5⟩ := h
    have h1 : f.name ≠ "_" := by simpa using h1
    have h2 := Nat.eq_of_beq_eq_true h2
    split at h3
    · rename_i k hk
      have h3 := of_decide_eq_true h3
      subst h3
      have ex : px ++ Kd.cells (.pair k b) x = px ++ k.cells x.1 ++ b.cells x.2 := by simp [Kd.cells]
      have ey : py ++ Kd.cells (.pair k b) y = py ++ k.cells y.1 ++ b.cells y.2 := by simp [Kd.cells]
      simp only [Op.eqFields, h1, ne_eq, not_false_iff, if_true]
      rw [ex, ey]
      simp only [Sem.run_bind, run_part hk rfl (by omega : px.length = f.offset) w, run_part hk rfl (by omega : py.length = f.offset) w, Result.andThen_ok, hrec _ _ h4]
      cases e : eqK k x.1 y.1
      · simp [eqK, e]
      · simp only [Bool.not_true, Bool.false_eq_true, if_false]
        rw [eqFields_sound hrec fs b _ h5 x.2 y.2 (px ++ k.cells x.1) (py ++ k.cells y.1) (by simp [Kd.cells_len, hx]) (by simp [Kd.cells_len, hy]) w]
        simp [eqK, e]
    · cases h3

theorem eqArr_sound {P : Program} {d : Nat} {e : TypeId} {k : Kd} (hk : kdOf P D e = some k) (hrec : ∀ (x y : Den k) w, (Op.equalIn d e (k.val x) (k.val y)).run P w = .ok (eqK k x y) w) {T : TypeId} {m : Nat} (hT : P.underlying T = some (.array m e))
    (x y : Fin m → Den k) (w : World) : (Op.equalIn (d + 1) T (Kd.val (.arr m k) x) (Kd.val (.arr m k) y)).run P w = .ok (eqK (.arr m k) x y) w := by
  simp only [Kd.val]
  simp only [Op.equalIn, Sem.run_bind, run_underlying' hT, Result.andThen_ok, run_sizeOf hk]
  have part_at : ∀ (z : Fin m → Den k) (i : Nat) (hi : i < m) w, (part e (Kd.cells (.arr m k) z).toArray (i * k.size)).run P w = .ok (k.val (z ⟨i, hi⟩)) w := by
    intro z i hi w
    have hget : (List.ofFn z)[i]? = some (z ⟨i, hi⟩) := by rw [List.getElem?_ofFn, dif_pos hi]
    obtain ⟨p, r, hp, hlen⟩ := flatMap_at k.cells k.size k.cells_len _ _ _ hget
    exact run_part hk (by simp only [Kd.cells]; exact hp) hlen w
  rw [Std.Legacy.Range.forIn_eq_forIn_range']
  simp only [Std.Legacy.Range.size, Nat.sub_zero, Nat.add_one_sub_one, Nat.div_one]
  have key : ∀ (c s : Nat), s + c = m → ∀ w (acc : Unit), (Sem.run P (forIn (List.range' s c) ((none, acc) : Option Bool × Unit) fun i r => do
        let a ← part e (Kd.cells (.arr m k) x).toArray (i * k.size)
        let b ← part e (Kd.cells (.arr m k) y).toArray (i * k.size)
        let q ← Op.equalIn d e a b
        if (!q) = true then pure (ForInStep.done (some false, ())) else pure (ForInStep.yield (none, ()))) w)
      = .ok (if ((List.range' s c).all fun i => if h : i < m then eqK k (x ⟨i, h⟩) (y ⟨i, h⟩) else true) then (none, ()) else (some false, ())) w := by
    intro c
    induction c with
    | zero => intro s hs w acc; simp
    | succ c ih =>
      intro s hs w acc
      have hs' : s < m := by omega
      simp only [List.range'_succ, List.forIn_cons, Sem.run_bind, part_at x s hs', part_at y s hs', Result.andThen_ok, hrec, List.all_cons, hs', dif_pos]
      cases q : eqK k (x ⟨s, hs'⟩) (y ⟨s, hs'⟩)
      · simp
      · have := ih (s + 1) (by omega) w ()
        rw [Bool.true_and]
        simpa using this
  have h1 := key m 0 (by omega) w ()
  have h2 : ((List.range' 0 m).all fun i => if h : i < m then eqK k (x ⟨i, h⟩) (y ⟨i, h⟩) else true) = eqK (.arr m k) x y := by
    simp only [eqK]
    rw [Bool.eq_iff_iff]
    simp only [List.all_eq_true, List.mem_range'_1, List.mem_finRange, true_implies]
    constructor
    · intro h i
      have := h i.val ⟨by omega, by omega⟩
      simpa [i.isLt] using this
    · intro h i hi
      have : i < m := by omega
      simp [this, h ⟨i, this⟩]
  rw [h2] at h1
  rw [h1]
  cases eqK (.arr m k) x y <;> rfl

theorem eqOk_sound {P : Program} : ∀ (n : Nat) (T : TypeId) (k : Kd), eqOk P n T k = true → ∀ (d : Nat), n ≤ d → ∀ (x y : Den k) w, (Op.equalIn d T (k.val x) (k.val y)).run P w = .ok (eqK k x y) w
  | 0, T, k, h, d, hd, x, y, w => by simp [eqOk] at h
  | n + 1, T, k, h, d, hd, x, y, w => by
    obtain ⟨d, rfl⟩ : ∃ m, d = m + 1 := ⟨d - 1, by omega⟩
    have ih := fun (T : TypeId) (k : Kd) (h : eqOk P n T k = true) => eqOk_sound n T k h d (by omega)
    simp only [eqOk] at h
    split at h
    · rename_i hT
      split at h
      · simp only [Kd.val, eqK]
        rw [run_equalIn_int _ d T _ _ x y hT]
        rfl
      · cases h
    · rename_i hT
      split at h
      · exact run_equalIn_bool' w d T x y hT
      · cases h
    · rename_i hT
      split at h
      · exact run_equalIn_string w d T x y hT
      · cases h
    · rename_i fs hT
      simp only [Bool.and_eq_true, Bool.not_eq_true'] at h
      obtain ⟨⟨h1, h2⟩, h3⟩ := h
      have hf : P.fieldsOf T = fs := by unfold Program.fieldsOf; rw [hT]
      rw [Kd.val_agg h1, Kd.val_agg h1, run_equalIn_struct w d T _ _ (by rw [hf]; exact hT) h2, hf]
      have := eqFields_sound (d := d) (rec := eqOk P n) (fun T k h => ih T k h) fs.toList k 0 h3 x y [] [] rfl rfl w
      simpa using this
    · rename_i m e hT
      split at h
      · rename_i m' a
        simp only [Bool.and_eq_true] at h
        obtain ⟨⟨h1, h2⟩, h3⟩ := h
        have h1 := Nat.eq_of_beq_eq_true h1
        subst h1
        split at h2
        · rename_i k hk
          have h2 := of_decide_eq_true h2
          subst h2
          exact eqArr_sound hk (fun x y w => ih e k h3 x y w) hT x y w
        · cases h2
      · cases h
    · cases h

end Go.Mx
