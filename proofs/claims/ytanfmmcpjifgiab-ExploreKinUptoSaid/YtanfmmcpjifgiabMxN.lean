/-
  A function: from its marked code to its calls.
-/
import Derived.Test.YtanfmmcpjifgiabMxM
set_option linter.unusedVariables false
set_option linter.unusedSimpArgs false
namespace Go.Mx

def Ent.val (e : Ent) : Value := e.k.val e.x
def rho0 (l : List Ent) : Slots := fun t => match l[t]? with
  | some e => .v e.k e.x
  | none => .junk

def resOne (P : Program) (r : ResultVar) (k : Kd) (ρ : Slots) (β : Boxes) : Option (Den k) :=
  match r with
  | .tmp t => tvVal k (ρ t)
  | .cell a T => match ρ a with
    | .box i off => if kdOf P D T = some k then (match look β i with
      | some l => getBox k l off
      | none => none) else none
    | _ => none
def resAll (P : Program) : List ResultVar → (k : Kd) → Slots → Boxes → Option (Den k)
  | [], .nil, _, _ => some ()
  | r :: rs, .pair a b, ρ, β => match resOne P r a ρ β, resAll P rs b ρ β with
    | some x, some y => some (x, y)
    | _, _ => none
  | _, _, _, _ => none
def retV (P : Program) (rs : List ResultVar) (tp : Bool) (k : Kd) (ρ : Slots) (β : Boxes) : Option (Den k) :=
  bif tp then resAll P rs k ρ β else match rs with
    | [r] => resOne P r k ρ β
    | _ => none
def retK (P : Program) (rs : List ResultVar) (tp : Bool) (k : Kd) (Q : Den k → Heap → Prop) (ρ : Slots) (β : Boxes) (h : Heap) : Prop :=
  match retV P rs tp k ρ β with
  | some x => Q x h
  | none => False

def res1 (tmps : Array Value) : ResultVar → Sem Value
  | .tmp t => pure (tmps.getD t undef)
  | .cell a t => do loadVar t (← asAddr (tmps.getD a undef))

theorem resOne_run {P : Program} {h0 w0 n F Z κ ρ β h a w} (s : St h0 w0 n F Z κ ρ β h a w) {r : ResultVar} {k : Kd} {x : Den k} (hx : resOne P r k ρ β = some x) :
    (res1 a.tmps r).run P w = .ok (k.val x) w := by
  cases r with
  | tmp t =>
    simp only [resOne] at hx
    simp only [res1, Sem.run_pure, tvVal_spec hx (s.slot t)]
  | cell t T =>
    simp only [resOne] at hx
    have hs := s.slot t
    split at hx
    · rename_i i off e
      rw [e] at hs
      split at hx
      · rename_i hk
        split at hx
        · rename_i l hl
          obtain ⟨p, q, hp, hlen⟩ := getBox_spec hx
          obtain ⟨⟨t', hb⟩, _, _⟩ := s.box i l hl
          simp only [res1, show a.tmps.getD t undef = .pointer (some ⟨κ i, off, none⟩) from hs, Sem.run_bind, asAddr, Sem.run_pure, Result.andThen_ok]
          exact run_loadVar hk (fun j v e => box_cells hb hp hlen j v e)
        · cases hx
      · cases hx
    · cases hx

theorem resAll_run {P : Program} {h0 w0 n F Z κ ρ β h a w} (s : St h0 w0 n F Z κ ρ β h a w) : ∀ (rs : List ResultVar) (k : Kd) (x : Den k), resAll P rs k ρ β = some x →
    (rs.mapM (res1 a.tmps)).run P w = .ok (k.comps x) w ∧ (k.comps x).length = rs.length
  | [], .nil, x, h => ⟨rfl, rfl⟩
  | r :: rs, .pair k1 k2, x, h => by
    simp only [resAll] at h
    split at h
    · rename_i y z hy hz
      cases h
      obtain ⟨h1, h2⟩ := resAll_run s rs k2 z hz
      refine ⟨?_, by simp [Kd.comps, h2]⟩
      simp only [List.mapM_cons, Sem.run_bind, resOne_run s hy, Result.andThen_ok, h1, Sem.run_pure, Kd.comps]
    · cases h

theorem results_run {P : Program} {fn : Func} {rs : List ResultVar} (hrs : fn.results = rs.toArray) {tp : Bool} (htp : (bif tp then !(Nat.beq rs.length 1) else true) = true) {k : Kd}
    {h0 w0 n F Z κ ρ β h a w} (s : St h0 w0 n F Z κ ρ β h a w) {x : Den k} (hx : retV P rs tp k ρ β = some x) : (results fn a.tmps).run P w = .ok (resV tp k x) w := by
  have hmap : ∀ (g : ResultVar → Sem Value), fn.results.mapM g = Array.mk <$> rs.mapM g := by
    intro g; rw [hrs, Array.mapM_eq_mapM_toList]
  have hres : results fn a.tmps = (do let vs ← fn.results.mapM (res1 a.tmps); pure (if h : vs.size = 1 then vs[0] else .tuple vs)) := rfl
  rw [hres, hmap]
  cases tp
  · simp only [retV, cond_false] at hx
    split at hx
    · rename_i r
      have := resOne_run s hx
      simp only [List.mapM_cons, List.mapM_nil, Sem.run_bind, Sem.run_map, this, Result.andThen_ok, Sem.run_pure, resV, cond_false]
      rfl
    · cases hx
  · simp only [retV, cond_true] at hx
    obtain ⟨h1, h2⟩ := resAll_run s rs k x hx
    simp only [Sem.run_bind, Sem.run_map, h1, Result.andThen_ok, Sem.run_pure, resV, cond_true]
    have hne : ¬ ((Array.mk (k.comps x)).size = 1) := by
      simp only [cond_true, Bool.not_eq_true'] at htp
      intro e
      have : rs.length = 1 := by rw [← h2]; exact e
      rw [this] at htp; cases htp
    rw [dif_neg hne]

/-- From what a function's marked code comes to, to its calls. -/
theorem fn_sound {P : Program} {f : FuncId} {fn : Func} {c : AC} {n : Nat} (hf : P.funcs[f]? = some fn) (hb : fn.body = some c.code) (hn : fn.ntmps = n) {rs : List ResultVar} (hrs : fn.results = rs.toArray)
    (l : List Ent) (hl : Nat.ble l.length n = true) {tp : Bool} (htp : (bif tp then !(Nat.beq rs.length 1) else true) = true) {k : Kd} {h : Heap} {Q : Den k → Heap → Prop}
    (H : interp P n c [] (rho0 l) [] h (retK P rs tp k Q) (fun _ _ _ _ => False) (retK P rs tp k Q)) : CallT P f (l.map Ent.val) tp k h Q := by
  intro w hw
  have hl := Nat.le_of_ble_eq_true hl
  have st0 : St h w n [] (fun _ => False) (fun _ => 0) (rho0 l) [] h { tmps := (l.map Ent.val).toArray ++ Array.replicate (fn.ntmps - (l.map Ent.val).toArray.size) undef, defers := [] } w := by
    refine ⟨Inv.refl hw, fun i l e => ?_, fun i j l m e => ?_, fun b hb => hb.elim, fun i l e => ?_, ?_, fun t => ?_, rfl⟩
    · cases e
    · cases e
    · cases e
    · simp [hn]; omega
    · unfold rho0
      split
      · rename_i e he
        have hlt := (List.getElem?_eq_some_iff.1 he).1
        rw [Array.getD_eq_getD_getElem?, Array.getElem?_append_left (by simpa using hlt)]
        simp [he, Rl, Ent.val]
      · trivial
  refine calls_of_wp hf hb (wp_mono (interp_sound c st0 H) fun e a' w' hp => ?_)
  cases e with
  | normal =>
    obtain ⟨κ', ρ', β', h', q1, q2, q3⟩ := hp
    unfold retK at q3
    split at q3
    · rename_i x hx
      exact ⟨q1.defers, _, results_run hrs htp q1 hx, _, h', rfl, q1.inv, x, rfl, q3⟩
    · exact q3.elim
  | exit id => obtain ⟨κ', ρ', β', h', q1, q2, q3⟩ := hp; exact q3.elim
  | ret =>
    obtain ⟨κ', ρ', β', h', F', Z', q1, q3⟩ := hp
    unfold retK at q3
    split at q3
    · rename_i x hx
      exact ⟨q1.defers, _, results_run hrs htp q1 hx, _, h', rfl, q1.inv, x, rfl, q3⟩
    · exact q3.elim
  | _ => exact hp.elim

end Go.Mx

namespace Go.Mx

/-! ### marks on code -/
inductive Mk where
  | d
  | r (hid : List Nat)
  | q (hid mods : List Nat) (steps : List Stp)
  | s (a b : Mk)
  | j (c : List Carry) (a b : Mk)
  | c (a b : Mk)
  | b (a : Mk)
  | l (c : List Carry) (a : Mk)

def weave : Code → Mk → AC
  | .region id ops false, .r hid => .reg id ops hid
  | .region id ops false, .d => .reg id ops []
  | .region id ops true, .q hid mods steps => .regD id ops hid mods steps
  | .seq a b, .s x y => .seq (weave a x) (weave b y)
  | .seq a b, .j c x y => .seqJ c (weave a x) (weave b y)
  | .cond c a b, .c x y => .cond c (weave a x) (weave b y)
  | .block id a, .b x => .block id (weave a x)
  | .loop a, .l c x => .loop c (weave a x)
  | .exit id, _ => .exit id
  | .ret, _ => .ret
  | .label l, _ => .label l
  | _, _ => .skip

abbrev w64 (x : Int) : Int := IntKind.wrap .i64 x

theorem fn_sound2 {P : Program} {f : FuncId} {fn : Func} {c : AC} {n : Nat} (hf : P.funcs[f]? = some fn) (hb : fn.body = some c.code) (hn : fn.ntmps = n) {rs : List ResultVar} (hrs : fn.results = rs.toArray)
    (l : List Ent) {vs : List Value} (hv : l.map Ent.val = vs) (hl : Nat.ble l.length n = true) {tp : Bool} (htp : (bif tp then !(Nat.beq rs.length 1) else true) = true) {k : Kd} {h : Heap} {Q : Den k → Heap → Prop} {M : Prop}
    (e : M = interp P n c [] (rho0 l) [] h (retK P rs tp k Q) (fun _ _ _ _ => False) (retK P rs tp k Q)) (H : M) : CallT P f vs tp k h Q := by
  subst hv
  exact fn_sound hf hb hn hrs l hl htp (e ▸ H)

end Go.Mx
