/-
  A law's arguments: from what was handed to it to kinds and values.
-/
import Derived.Test.YtndhbkhhehleaaaMxR
import Derived.Test.YtndhbkhhehleaaaMxT
set_option linter.unusedVariables false
set_option linter.unusedSimpArgs false
namespace Go.Mx
open Go.RowKit Go.ChangeShapes Go.WideShapes Go.Proofs.Ytndhbkhhehleaaa

def aggT (P : Program) (T : TypeId) : Bool := match P.underlying T with
  | some (.struct _) | some (.array _ _) => true
  | _ => false

theorem cellOk_agg {P : Program} {W : World} {r : Reach} {base : Nat} {T : TypeId} {cs : Array Value} (h : Cell.okWide P W r base T (.agg cs)) : False := by
  unfold Cell.okWide Cell.ok at h
  revert h
  generalize P.underlying T = u
  intro h
  cases u with
  | none => simp at h
  | some d => cases d <;> simp at h

theorem arg_of {P : Program} {W : World} {r : Reach} {base : Nat} {T : TypeId} {k : Kd} {v : Value} {x : Den k} (ha : aggT P T = k.isAgg) (hok : Value.okWide P W r base T v) (hc : v.cells.toList = k.cells x) : v = k.val x := by
  cases e : k.isAgg with
  | true =>
    rw [e] at ha
    rw [Kd.val_agg e]
    have : ∃ cs, v = .agg cs := by
      unfold aggT at ha
      unfold Value.okWide at hok
      cases u : P.underlying T with
      | none => rw [u] at ha; cases ha
      | some d =>
        rw [u] at ha hok
        cases d <;> first | (cases ha; done) | (obtain ⟨cs, h, _⟩ := hok; exact ⟨cs, h⟩)
    obtain ⟨cs, rfl⟩ := this
    have hc : cs.toList = k.cells x := hc
    rw [← hc]
  | false =>
    rw [e] at ha
    rw [Kd.cells_one e] at hc
    have hn : ∀ cs, v ≠ .agg cs := by
      rintro cs rfl
      unfold aggT at ha
      unfold Value.okWide at hok
      cases u : P.underlying T with
      | none => rw [u] at hok; exact cellOk_agg hok
      | some d =>
        rw [u] at ha hok
        cases d <;> first | (cases ha; done) | exact cellOk_agg hok
    have : v.cells = #[v] := by cases v <;> first | rfl | exact absurd rfl (hn _)
    rw [this] at hc
    simpa using hc

def ArgsOf (P : Program) (W : World) (B m : Nat) : List TypeId → List Ent → Prop
  | [], [] => True
  | T :: ts, e :: es => DataOf P W B m T e.k e.x ∧ ArgsOf P W B m ts es
  | _, _ => False
def argsOk (P : Program) (m : Nat) : List TypeId → List Kd → Bool
  | [], [] => true
  | T :: ts, k :: ks => deepOk P m T && (match kdOf P D T with | some k' => decide (k' = k) | none => false) && (match aggT P T, k.isAgg with | true, true | false, false => true | _, _ => false) && argsOk P m ts ks
  | _, _ => false

theorem args_of {H : Type} {enc : TypeId × Value → H} {P : Program} {W : World} {base m B : Nat} : ∀ {ts : List TypeId} {ks : List Kd} {vs : List Value} {ds : List (DataW H)} {ps : List MemPlace}, argsOk P m ts ks = true →
    (∀ (j : Nat) t v, ts[j]? = some t → vs[j]? = some v → Value.okWide P W .any base t v) → DataW.TrodAll enc P W 0 (fun _ => true) true ts vs ds ps → Rows.uptoBulkAll ds ≤ B →
    ∃ es : List Ent, es.map (·.k) = ks ∧ vs = es.map Ent.val ∧ ArgsOf P W B m ts es
  | [], [], vs, ds, ps, _, _, h, _ => by
    obtain ⟨rfl, rfl, rfl⟩ := trodAll_nil h
    exact ⟨[], rfl, rfl, trivial⟩
  | [], _ :: _, _, _, _, hk, _, _, _ => by cases hk
  | _ :: _, [], _, _, _, hk, _, _, _ => by cases hk
  | T :: ts, k :: ks, vs, ds, ps, hk, hval, h, hB => by
    obtain ⟨v, vs', d, ds', p, q, rfl, rfl, rfl, ⟨n, h1⟩, h2⟩ := trodAll_cons h
    simp only [argsOk, Bool.and_eq_true] at hk
    obtain ⟨⟨⟨hd, hk1⟩, hk2⟩, hk3⟩ := hk
    have hB' : Rows.uptoBulk d + Rows.uptoBulkAll ds' ≤ B := hB
    obtain ⟨es, e1, e2, e3⟩ := args_of (B := B) hk3 (fun j t v a b => hval (j + 1) t v a b) h2 (by omega)
    cases hkd : kdOf P D T with
    | none => rw [hkd] at hk1; cases hk1
    | some k' =>
    rw [hkd] at hk1
    obtain rfl : k' = k := of_decide_eq_true hk1
    obtain ⟨x, hx1, hx2⟩ := trod_data m T _ d p D n k' hd hkd h1
    have hag : aggT P T = k'.isAgg := by
      cases a : aggT P T <;> cases b : k'.isAgg <;> first | rfl | (rw [a, b] at hk2; cases hk2)
    have hv := arg_of hag (hval 0 T v rfl rfl) hx1
    refine ⟨⟨k', x⟩ :: es, by simp [e1], by simp [e2, hv, Ent.val], ?_, e3⟩
    exact DataOf.mono (B := Rows.uptoBulk d) (by omega) _ _ _ _ hx2

def elemT (P : Program) (T : TypeId) : TypeId := match P.underlying T with
  | some (.slice e) => e
  | _ => 0
def elemKd (P : Program) (T : TypeId) : Option Kd := match P.underlying T with
  | some (.slice e) => kdOf P D e
  | _ => none

theorem DataOf.arr {P : Program} {W : World} {B m : Nat} {T : TypeId} {ke : Kd} {s : Sl} (h : DataOf P W B (m + 1) T .sl s) (hk : elemKd P T = some ke) :
    ∃ xs : List (Den ke), Arr (view W) ke s xs ∧ s.len ≤ B ∧ s.len ≤ s.cap ∧ s.cap ≤ B ∧ (s.a = none → s = ⟨none, 0, 0⟩) ∧ ∀ y ∈ xs, DataOf P W B m (elemT P T) ke y := by
  rcases h with rfl | ⟨e, ke', a, all, h1, h2, h3, h4, h5, h6, h7, h8⟩
  · exact ⟨[], ⟨rfl, Nat.le_refl _, rfl⟩, Nat.zero_le _, Nat.zero_le _, Nat.zero_le _, fun _ => rfl, fun y hy => by cases hy⟩
  · unfold elemKd at hk
    unfold elemT
    rw [h1] at hk ⊢
    dsimp only at hk ⊢
    rw [h2] at hk
    cases hk
    refine ⟨all.take s.len, ⟨by rw [List.length_take]; omega, by omega, ?_⟩, by omega, h5, h6, fun e => (by rw [h3] at e; cases e), fun y hy => h8 y (List.mem_of_mem_take hy)⟩
    rw [h3]
    have e : all.flatMap ke.cells = (all.take s.len).flatMap ke.cells ++ (all.drop s.len).flatMap ke.cells := by rw [← List.flatMap_append, List.take_append_drop]
    rw [e] at h7
    exact fun j v hj => h7 j v (by rw [List.getElem?_append_left (List.getElem?_eq_some_iff.1 hj).1]; exact hj)

end Go.Mx
