/-
  A deque among others: the same machine over a part of a greater memory: a map of addresses.
  DequeApart: two deques in one memory: the plain law.
  DequeApart: the walk.
  DequeApart: how the two deques begin; turns.
-/
import Derived.Test.YtndhbkhhehleaaaMxQd
import Derived.Test.YtndhbkhhehleaaaMxZa
import Derived.Test.YtndhbkhhehleaaaMxPv
set_option linter.unusedVariables false
set_option linter.unusedSimpArgs false
set_option linter.unusedSectionVars false
namespace Go.Mx

def fz (f : Int → Int) (a : Int) : Int := if a = 0 then 0 else f a
def mapO (off : Int) (f : Int → Int) (o : DOp) : DOp := { o with base := off, a := fz f o.a, a2 := fz f o.a2 }
theorem fz_pos {f : Int → Int} {a : Int} (h : 3 ≤ a) : fz f a = f a := if_neg (by omega)
structure Emb (A J : List Int) (off : Int) (f : Int → Int) : Prop where
  b0 : f 0 = off
  b1 : f 1 = off + 1
  b2 : f 2 = off + 2
  a3 : 3 ≤ (A.length : Int)
  jl : (J.length : Int) ≤ 1048576
  rng : ∀ x, 0 ≤ x → x < (A.length : Int) → 0 ≤ f x ∧ f x < (J.length : Int)
  inj : ∀ x y, 0 ≤ x → x < (A.length : Int) → 0 ≤ y → y < (A.length : Int) → f x = f y → x = y
  cell : ∀ x, 0 ≤ x → x < (A.length : Int) → x ≠ 2 → gt J (f x) = gt A x
  buf : gt J (f 2) = f (gt A 2)
def Aff (A : List Int) (f : Int → Int) (s c : Int) : Prop := 3 ≤ s ∧ s + c < (A.length : Int) ∧ ∀ j, 0 ≤ j → j ≤ c → f (s + j) = f s + j
theorem Aff.at {A f s c} (h : Aff A f s c) {x : Int} (h0 : s ≤ x) (h1 : x ≤ s + c) : f x = f s + (x - s) := by
  have := h.2.2 (x - s) (by omega) (by omega)
  rwa [show s + (x - s) = x by omega] at this
theorem Emb.off0 {A J off f} (E : Emb A J off f) : 0 ≤ off ∧ off + 2 < (J.length : Int) := by
  have a3 := E.a3
  have h0 := E.rng 0 (by omega) (by omega)
  have h2 := E.rng 2 (by omega) (by omega)
  rw [E.b0] at h0
  rw [E.b2] at h2
  omega
theorem Emb.place {off s c i : Int} {f' : Int → Int} {A' J' : List Int} (E : Emb A' J' off f') (h : Aff A' f' s c) (hc : 1 ≤ c) (hc2 : c ≤ 4096) (hi : 0 ≤ i) (hl : (A'.length : Int) ≤ 1048576) : placeD s c i = pl s c i ∧ placeD (f' s) c i = f' (pl s c i) ∧ 3 ≤ pl s c i ∧ pl s c i < (A'.length : Int) := by
  obtain ⟨h1, h2, h3⟩ := h
  have hr := E.rng s (by omega) (by omega)
  have hj := E.jl
  have hp := pl_range (a := s) (c := c) (i := i) hc
  have e1 := placeD_pl (a := s) (c := c) (i := i) (by omega) (by omega) hc (by omega) hi
  have e2 := placeD_pl (a := f' s) (c := c) (i := i) (by omega) (by omega) hc (by omega) hi
  refine ⟨e1, ?_, by omega, by omega⟩
  rw [e2, Aff.at ⟨h1, h2, h3⟩ (x := pl s c i) (by omega) (by omega)]
  unfold pl; omega
def reqA : Rq → Int
  | .ld a => a
  | .st a _ => a
  | .cas a _ _ => a
  | .rs _ => -1
structure SimR (off : Int) (f : Int → Int) (A J : AS) (o : DOp) (v : Int) (A' : AS) (f' : Int → Int) (v' : Int) (J' : AS) : Prop where
  acc : arenaI J (mapO off f o).req = (some v', J')
  sz : J'.sz = J.sz
  emb : Emb A'.cs J'.cs off f'
  old : ∀ x, 0 ≤ x → x < (A.cs.length : Int) → f' x = f x
  new : ∀ x, (A.cs.length : Int) ≤ x → x < (A'.cs.length : Int) → (J.cs.length : Int) ≤ f' x
  len : (J'.cs.length : Int) - (J.cs.length : Int) = (A'.cs.length : Int) - (A.cs.length : Int)
  alen : (A.cs.length : Int) ≤ (A'.cs.length : Int)
  rest : ∀ y, 0 ≤ y → y < (J.cs.length : Int) → (∀ x, 0 ≤ x → x < (A.cs.length : Int) → f x ≠ y) → gt J'.cs y = gt J.cs y
  op : mapO off f' (o.after v) = (mapO off f o).after v'
  adr : (∃ n, (mapO off f o).req = .rs n) ∨ ∃ x, 0 ≤ x ∧ x < (A.cs.length : Int) ∧ reqA (mapO off f o).req = f x
section
variable {off : Int} {f : Int → Int} {A J : AS} {o : DOp} (E : Emb A.cs J.cs off f)
include E
theorem sim_ld {x : Int} (h0 : 0 ≤ x) (h1 : x < (A.cs.length : Int)) (hr : o.req = .ld x) (hr' : (mapO off f o).req = .ld (f x)) {v : Int} {A' : AS} (ha : arenaI A o.req = (some v, A'))
    (hop : ∀ g g', g = gt A.cs x → g' = (if x = 2 then f g else g) → mapO off f (o.after g) = (mapO off f o).after g') : ∃ v' J', SimR off f A J o v A' f v' J' := by
  have hx := E.rng x h0 h1
  rw [hr, ld_ok ⟨h0, h1⟩] at ha
  cases ha
  refine ⟨gt J.cs (f x), J.log (acc J 0 (f x) (gt J.cs (f x)) 0 true), by rw [hr']; exact ld_ok hx, rfl, E, fun _ _ _ => rfl, fun y a b => absurd b (by show ¬ y < (A.cs.length : Int); omega), by show (J.cs.length : Int) - _ = (A.cs.length : Int) - _; omega, Int.le_refl _, fun _ _ _ _ => rfl, ?_, .inr ⟨x, h0, h1, by rw [hr']; rfl⟩⟩
  refine hop _ _ rfl ?_
  by_cases e : x = 2
  · subst e; rw [if_pos rfl]; exact E.buf
  · rw [if_neg e]; exact E.cell x h0 h1 e
theorem Emb.set {x w : Int} (h0 : 0 ≤ x) (h1 : x < (A.cs.length : Int)) (h2 : x ≠ 2) : Emb (A.cs.set x.toNat w) (J.cs.set (f x).toNat w) off f := by
  have hx := E.rng x h0 h1
  have a3 := E.a3
  refine ⟨E.b0, E.b1, E.b2, by rw [List.length_set]; exact E.a3, by rw [List.length_set]; exact E.jl, fun y a b => ?_, fun y z a b c d e => ?_, fun y a b n => ?_, ?_⟩
  · rw [List.length_set] at b ⊢; exact E.rng y a b
  · rw [List.length_set] at b d; exact E.inj y z a b c d e
  · rw [List.length_set] at b
    rw [gt_set hx.1 hx.2 (E.rng y a b).1, gt_set h0 h1 a]
    by_cases e : y = x
    · subst e; rw [if_pos rfl, if_pos rfl]
    · rw [if_neg e, if_neg fun q => e (E.inj y x a b h0 h1 q)]
      exact E.cell y a b n
  · rw [gt_set h0 h1 (by decide), gt_set hx.1 hx.2 (E.rng 2 (by decide) (by omega)).1, if_neg (fun q => h2 (E.inj 2 x (by decide) (by omega) h0 h1 q).symm), if_neg fun q => h2 q.symm]
    exact E.buf
theorem sim_st {x w : Int} (h0 : 0 ≤ x) (h1 : x < (A.cs.length : Int)) (h2 : x ≠ 2) (hr : o.req = .st x w) (hr' : (mapO off f o).req = .st (f x) w) {v : Int} {A' : AS} (ha : arenaI A o.req = (some v, A'))
    (hop : mapO off f (o.after 0) = (mapO off f o).after 0) : ∃ v' J', SimR off f A J o v A' f v' J' := by
  have hx := E.rng x h0 h1
  rw [hr, st_ok ⟨h0, h1⟩] at ha
  cases ha
  refine ⟨0, AS.log { J with cs := J.cs.set (f x).toNat w } (acc J 1 (f x) w 0 true), by rw [hr']; exact st_ok hx, rfl, E.set h0 h1 h2, fun _ _ _ => rfl, fun y a b => ?_, ?_, ?_, fun y a b n => ?_, hop, .inr ⟨x, h0, h1, by rw [hr']; rfl⟩⟩
  · have b : y < ((A.cs.set x.toNat w).length : Int) := b
    rw [List.length_set] at b; omega
  · show ((J.cs.set (f x).toNat w).length : Int) - _ = ((A.cs.set x.toNat w).length : Int) - _
    rw [List.length_set, List.length_set]; omega
  · show _ ≤ ((A.cs.set x.toNat w).length : Int)
    rw [List.length_set]; exact Int.le_refl _
  · show gt (J.cs.set (f x).toNat w) y = _
    rw [gt_set hx.1 hx.2 a, if_neg fun q => n x h0 h1 q.symm]
theorem sim_st2 {w : Int} (hr : o.req = .st 2 w) (hr' : (mapO off f o).req = .st (f 2) (f w)) {v : Int} {A' : AS} (ha : arenaI A o.req = (some v, A'))
    (hop : mapO off f (o.after 0) = (mapO off f o).after 0) : ∃ v' J', SimR off f A J o v A' f v' J' := by
  have a3 := E.a3
  have h0 : (0 : Int) ≤ 2 := by decide
  have h1 : (2 : Int) < (A.cs.length : Int) := by omega
  have hx := E.rng 2 h0 h1
  rw [hr, st_ok ⟨h0, h1⟩] at ha
  cases ha
  refine ⟨0, AS.log { J with cs := J.cs.set (f 2).toNat (f w) } (acc J 1 (f 2) (f w) 0 true), by rw [hr']; exact st_ok hx, rfl, ?_, fun _ _ _ => rfl, fun y a b => ?_, ?_, ?_, fun y a b n => ?_, hop, .inr ⟨2, h0, h1, by rw [hr']; rfl⟩⟩
  · refine ⟨E.b0, E.b1, E.b2, by show 3 ≤ ((A.cs.set _ w).length : Int); rw [List.length_set]; exact E.a3, by show ((J.cs.set _ _).length : Int) ≤ _; rw [List.length_set]; exact E.jl, fun y a b => ?_, fun y z a b c d e => ?_, fun y a b n => ?_, ?_⟩
    · have b : y < ((A.cs.set (2 : Int).toNat w).length : Int) := b
      show 0 ≤ f y ∧ f y < ((J.cs.set (f 2).toNat (f w)).length : Int)
      rw [List.length_set] at b ⊢; exact E.rng y a b
    · have b : y < ((A.cs.set (2 : Int).toNat w).length : Int) := b
      have d : z < ((A.cs.set (2 : Int).toNat w).length : Int) := d
      rw [List.length_set] at b d; exact E.inj y z a b c d e
    · have b : y < ((A.cs.set (2 : Int).toNat w).length : Int) := b
      rw [List.length_set] at b
      show gt (J.cs.set (f 2).toNat (f w)) (f y) = gt (A.cs.set (2 : Int).toNat w) y
      rw [gt_set hx.1 hx.2 (E.rng y a b).1, gt_set h0 h1 a, if_neg n, if_neg fun q => n (E.inj y 2 a b h0 h1 q)]
      exact E.cell y a b n
    · show gt (J.cs.set (f 2).toNat (f w)) (f 2) = f (gt (A.cs.set (2 : Int).toNat w) 2)
      rw [gt_set hx.1 hx.2 hx.1, gt_set h0 h1 h0, if_pos rfl, if_pos rfl]
  · have b : y < ((A.cs.set (2 : Int).toNat w).length : Int) := b
    rw [List.length_set] at b; omega
  · show ((J.cs.set (f 2).toNat (f w)).length : Int) - _ = ((A.cs.set (2 : Int).toNat w).length : Int) - _
    rw [List.length_set, List.length_set]; omega
  · show _ ≤ ((A.cs.set (2 : Int).toNat w).length : Int)
    rw [List.length_set]; exact Int.le_refl _
  · show gt (J.cs.set (f 2).toNat (f w)) y = _
    rw [gt_set hx.1 hx.2 a, if_neg fun q => n 2 h0 h1 q.symm]
theorem sim_cas {x y : Int} (hr : o.req = .cas 0 x y) (hr' : (mapO off f o).req = .cas (f 0) x y) {v : Int} {A' : AS} (ha : arenaI A o.req = (some v, A'))
    (hop : ∀ g, mapO off f (o.after g) = (mapO off f o).after g) : ∃ v' J', SimR off f A J o v A' f v' J' := by
  have a3 := E.a3
  have h0 : (0 : Int) ≤ 0 := by decide
  have h1 : (0 : Int) < (A.cs.length : Int) := by omega
  have hx := E.rng 0 h0 h1
  have hc := E.cell 0 h0 h1 (by decide)
  have eA : arenaI A (.cas 0 x y) = (some (if gt A.cs 0 = x then 1 else 0), AS.log { A with cs := if gt A.cs 0 = x then A.cs.set (0 : Int).toNat y else A.cs } (A.who, (2, (0, (x, (y, (decide (gt A.cs 0 = x), ()))))))) := if_pos ⟨h0, h1⟩
  have eJ : arenaI J (.cas (f 0) x y) = (some (if gt J.cs (f 0) = x then 1 else 0), AS.log { J with cs := if gt J.cs (f 0) = x then J.cs.set (f 0).toNat y else J.cs } (J.who, (2, (f 0, (x, (y, (decide (gt J.cs (f 0) = x), ()))))))) := if_pos hx
  rw [hr, eA] at ha
  cases ha
  refine ⟨if gt J.cs (f 0) = x then 1 else 0, AS.log { J with cs := if gt J.cs (f 0) = x then J.cs.set (f 0).toNat y else J.cs } (J.who, (2, (f 0, (x, (y, (decide (gt J.cs (f 0) = x), ())))))), by rw [hr']; exact eJ, rfl, ?_, fun _ _ _ => rfl, fun z a b => ?_, ?_, ?_, fun z a b n => ?_, by rw [hc]; exact hop _, .inr ⟨0, h0, h1, by rw [hr']; rfl⟩⟩
  · show Emb (if gt A.cs 0 = x then A.cs.set (0 : Int).toNat y else A.cs) (if gt J.cs (f 0) = x then J.cs.set (f 0).toNat y else J.cs) off f
    rw [hc]
    by_cases e : gt A.cs 0 = x
    · rw [if_pos e, if_pos e]; exact E.set h0 h1 (by decide)
    · rw [if_neg e, if_neg e]; exact E
  · have b : z < ((if gt A.cs 0 = x then A.cs.set (0 : Int).toNat y else A.cs).length : Int) := b
    by_cases e : gt A.cs 0 = x
    · rw [if_pos e, List.length_set] at b; omega
    · rw [if_neg e] at b; omega
  · show ((if gt J.cs (f 0) = x then J.cs.set (f 0).toNat y else J.cs).length : Int) - _ = ((if gt A.cs 0 = x then A.cs.set (0 : Int).toNat y else A.cs).length : Int) - _
    rw [hc]
    by_cases e : gt A.cs 0 = x
    · rw [if_pos e, if_pos e, List.length_set, List.length_set]; omega
    · rw [if_neg e, if_neg e]; omega
  · show _ ≤ ((if gt A.cs 0 = x then A.cs.set (0 : Int).toNat y else A.cs).length : Int)
    by_cases e : gt A.cs 0 = x
    · rw [if_pos e, List.length_set]; exact Int.le_refl _
    · rw [if_neg e]; exact Int.le_refl _
  · show gt (if gt J.cs (f 0) = x then J.cs.set (f 0).toNat y else J.cs) z = _
    by_cases e : gt J.cs (f 0) = x
    · rw [if_pos e, gt_set hx.1 hx.2 a, if_neg fun q => n 0 h0 h1 q.symm]
    · rw [if_neg e]
def grow (f : Int → Int) (n j : Int) : Int → Int := fun y => if y < n then f y else j + (y - n)
theorem gt_new {cs : List Int} {n : Nat} {y : Int} (h0 : (cs.length : Int) ≤ y) : gt (cs ++ List.replicate n 0) y = 0 := by
  rw [gt_app]; unfold gt; rw [List.getElem?_eq_none (by omega)]; rfl
theorem sim_rs {n : Int} (n1 : 1 ≤ n) (nA : n ≤ A.sz - (A.cs.length : Int)) (nJ : n ≤ J.sz - (J.cs.length : Int)) (hJ : J.sz ≤ 1048576) (h2 : gt A.cs 2 < (A.cs.length : Int)) (hr : o.req = .rs n) (hr' : (mapO off f o).req = .rs n) {v : Int} {A' : AS} (ha : arenaI A o.req = (some v, A'))
    (hop : mapO off (grow f A.cs.length J.cs.length) (o.after A.cs.length) = (mapO off f o).after J.cs.length) : ∃ v' J', SimR off f A J o v A' (grow f A.cs.length J.cs.length) v' J' ∧ A'.cs = A.cs ++ List.replicate n.toNat 0 := by
  have a3 := E.a3
  rw [hr, rs_ok n1 nA] at ha
  cases ha
  have old : ∀ x, x < (A.cs.length : Int) → grow f A.cs.length J.cs.length x = f x := fun x h => if_pos h
  have new : ∀ x, (A.cs.length : Int) ≤ x → grow f A.cs.length J.cs.length x = (J.cs.length : Int) + (x - (A.cs.length : Int)) := fun x h => if_neg (by omega)
  have la : ((A.cs ++ List.replicate n.toNat 0).length : Int) = (A.cs.length : Int) + n := by rw [List.length_append, List.length_replicate]; omega
  have lj : ((J.cs ++ List.replicate n.toNat 0).length : Int) = (J.cs.length : Int) + n := by rw [List.length_append, List.length_replicate]; omega
  refine ⟨(J.cs.length : Int), AS.log { J with cs := J.cs ++ List.replicate n.toNat 0 } (acc J 4 (J.cs.length : Int) n 0 true), ⟨by rw [hr']; exact rs_ok n1 nJ, rfl, ?_, fun x _ h => old x h, fun x a b => by rw [new x a]; omega, ?_, ?_, fun y a b n' => gt_app _ _ _, hop, .inl ⟨n, hr'⟩⟩, rfl⟩
  · show Emb (A.cs ++ List.replicate n.toNat 0) (J.cs ++ List.replicate n.toNat 0) off _
    refine ⟨by rw [old 0 (by omega)]; exact E.b0, by rw [old 1 (by omega)]; exact E.b1, by rw [old 2 (by omega)]; exact E.b2, by rw [la]; omega, by rw [lj]; omega, fun x a b => ?_, fun x y a b c d e => ?_, fun x a b n2 => ?_, ?_⟩
    · rw [la] at b
      rw [lj]
      by_cases h : x < (A.cs.length : Int)
      · rw [old x h]; have := E.rng x a h; omega
      · rw [new x (by omega)]; omega
    · rw [la] at b d
      by_cases h : x < (A.cs.length : Int)
      · have hx := E.rng x a h
        rw [old x h] at e
        by_cases h' : y < (A.cs.length : Int)
        · rw [old y h'] at e; exact E.inj x y a h c h' e
        · rw [new y (by omega)] at e; omega
      · rw [new x (by omega)] at e
        by_cases h' : y < (A.cs.length : Int)
        · have hy := E.rng y c h'
          rw [old y h'] at e; omega
        · rw [new y (by omega)] at e; omega
    · rw [la] at b
      rw [gt_app, gt_app]
      by_cases h : x < (A.cs.length : Int)
      · rw [old x h]; exact E.cell x a h n2
      · rw [new x (by omega)]
        have e1 : gt J.cs ((J.cs.length : Int) + (x - (A.cs.length : Int))) = 0 := by unfold gt; rw [List.getElem?_eq_none (by omega)]; rfl
        have e2 : gt A.cs x = 0 := by unfold gt; rw [List.getElem?_eq_none (by omega)]; rfl
        rw [e1, e2]
    · rw [gt_app, gt_app, old 2 (by omega), old _ h2]; exact E.buf
  · show ((J.cs ++ List.replicate n.toNat 0).length : Int) - _ = ((A.cs ++ List.replicate n.toNat 0).length : Int) - _
    rw [la, lj]; omega
  · show _ ≤ ((A.cs ++ List.replicate n.toNat 0).length : Int)
    rw [la]; omega
end
theorem Aff.grown {A : List Int} {f : Int → Int} {s c n : Int} {k : Nat} (h : Aff A f s c) (j : Int) : Aff (A ++ List.replicate k 0) (grow f A.length j) s c := by
  obtain ⟨h1, h2, h3⟩ := h
  refine ⟨h1, by rw [List.length_append]; omega, fun i a b => ?_⟩
  have e : ∀ x, x < (A.length : Int) → grow f A.length j x = f x := fun x h => if_pos h
  rw [e _ (by omega), e _ (by omega)]; exact h3 i a b
theorem Aff.fresh {A : List Int} {f : Int → Int} {c j : Int} {k : Nat} (h3 : 3 ≤ (A.length : Int)) (h0 : 0 ≤ c) (hk : (k : Int) = 1 + c) : Aff (A ++ List.replicate k 0) (grow f A.length j) (A.length : Int) c := by
  refine ⟨h3, by rw [List.length_append, List.length_replicate]; omega, fun i a b => ?_⟩
  have e : ∀ x, (A.length : Int) ≤ x → grow f A.length j x = j + (x - (A.length : Int)) := fun x h => if_neg (by omega)
  rw [e _ (by omega), e _ (by omega)]; omega
theorem pif2 {α β : Type} {P : α → β → Prop} {c c' : Prop} [Decidable c] [Decidable c'] (hc : c ↔ c') {a b : α} {a' b' : β} (h1 : c → P a a') (h2 : ¬ c → P b b') : P (if c then a else b) (if c' then a' else b') := by
  by_cases h : c
  · rw [if_pos h, if_pos (hc.1 h)]; exact h1 h
  · rw [if_neg h, if_neg fun z => h (hc.2 z)]; exact h2 h
theorem after_map {off : Int} {f : Int → Int} {o : DOp} {g g' : Int} (h3 : o.pc = 3 → g' = fz f g ∧ (o.kind = 1 ∨ o.kind = 2 ∨ o.kind = 3)) (h5 : o.pc = 5 → g' = fz f g ∧ o.kind = 1) (hn : o.pc ≠ 3 → o.pc ≠ 5 → g' = g) : mapO off f (o.after g) = (mapO off f o).after g' := by
  by_cases p3 : o.pc = 3
  · obtain ⟨rfl, k⟩ := h3 p3
    unfold DOp.after
    refine pif2 (P := fun x y => mapO off f x = y) Iff.rfl (fun _ => ?_) fun k1 => pif2 (P := fun x y => mapO off f x = y) Iff.rfl (fun _ => ?_) fun k2 => pif2 (P := fun x y => mapO off f x = y) Iff.rfl (fun _ => ?_) fun k3 => ?_
    · simp [DOp.pushed, mapO, p3]
    · simp [DOp.popped, mapO, p3]
    · simp [DOp.stolen, mapO, p3]
    · omega
  by_cases p5 : o.pc = 5
  · obtain ⟨rfl, k⟩ := h5 p5
    unfold DOp.after
    rw [if_pos k, if_pos (show (mapO off f o).kind = 1 from k)]
    simp [DOp.pushed, mapO, p5]
  obtain rfl := hn p3 p5
  unfold DOp.after
  refine pif2 (P := fun x y => mapO off f x = y) Iff.rfl (fun _ => ?_) fun _ => pif2 (P := fun x y => mapO off f x = y) Iff.rfl (fun _ => ?_) fun _ => pif2 (P := fun x y => mapO off f x = y) Iff.rfl (fun _ => ?_) fun k4 => ?_
  · unfold DOp.pushed
    repeat' refine pif2 (P := fun x y => mapO off f x = y) Iff.rfl (fun _ => ?_) fun _ => ?_
    all_goals first
      | rfl
      | (exfalso; exact p3 (by assumption))
      | (exfalso; exact p5 (by assumption))
  · unfold DOp.popped
    repeat' refine pif2 (P := fun x y => mapO off f x = y) Iff.rfl (fun _ => ?_) fun _ => ?_
    all_goals first
      | rfl
      | (exfalso; exact p3 (by assumption))
  · unfold DOp.stolen
    repeat' refine pif2 (P := fun x y => mapO off f x = y) Iff.rfl (fun _ => ?_) fun _ => ?_
    all_goals first
      | rfl
      | (exfalso; exact p3 (by assumption))
  · unfold DOp.looked
    repeat' refine pif2 (P := fun x y => mapO off f x = y) Iff.rfl (fun _ => ?_) fun _ => ?_
    all_goals rfl

section
variable {A J : List Int} {off : Int} {f : Int → Int} (E : Emb A J off f) {o : DOp}
include E
theorem Emb.offw {i : Int} (a : 0 ≤ i) (b : i ≤ 2) : w64 (off + i) = off + i := by
  have := E.off0; have := E.jl
  rw [w64_of] <;> omega
theorem Emb.r1 (p : o.pc = 1) : (mapO off f o).req = .ld (f 1) := by
  rw [E.b1, ← E.offw (i := 1) (by decide) (by decide)]
  unfold DOp.req; rw [show (mapO off f o).pc = 1 from p]; rfl
theorem Emb.r2 (p : o.pc = 2) : (mapO off f o).req = .ld (f 0) := by
  have := E.offw (i := 0) (by decide) (by decide)
  rw [E.b0]
  unfold DOp.req; rw [show (mapO off f o).pc = 2 from p]
  show Rq.ld (w64 (off + 0)) = _
  rw [this, Int.add_zero]
theorem Emb.r3 (p : o.pc = 3) : (mapO off f o).req = .ld (f 2) := by
  rw [E.b2, ← E.offw (i := 2) (by decide) (by decide)]
  unfold DOp.req; rw [show (mapO off f o).pc = 3 from p]; rfl
theorem Emb.r4 (p : o.pc = 4) : (mapO off f o).req = .ld (fz f o.a) := by unfold DOp.req; rw [show (mapO off f o).pc = 4 from p]; rfl
theorem Emb.r5 (p : o.pc = 5) : (mapO off f o).req = .rs (w64 (1 + o.c2)) := by unfold DOp.req; rw [show (mapO off f o).pc = 5 from p]; rfl
theorem Emb.r6 (p : o.pc = 6) : (mapO off f o).req = .st (fz f o.a2) o.c2 := by unfold DOp.req; rw [show (mapO off f o).pc = 6 from p]; rfl
theorem Emb.r7 (p : o.pc = 7) : (mapO off f o).req = .ld (placeD (fz f o.a) o.c o.i) := by unfold DOp.req; rw [show (mapO off f o).pc = 7 from p]; rfl
theorem Emb.r8 (p : o.pc = 8) : (mapO off f o).req = .st (placeD (fz f o.a2) o.c2 o.i) o.x := by unfold DOp.req; rw [show (mapO off f o).pc = 8 from p]; rfl
theorem Emb.r9 (p : o.pc = 9) : (mapO off f o).req = .st (f 2) (fz f o.a2) := by
  rw [E.b2, ← E.offw (i := 2) (by decide) (by decide)]
  unfold DOp.req; rw [show (mapO off f o).pc = 9 from p]; rfl
theorem Emb.r10 (p : o.pc = 10) : (mapO off f o).req = .st (placeD (fz f o.a) o.c o.b) o.v := by unfold DOp.req; rw [show (mapO off f o).pc = 10 from p]; rfl
theorem Emb.r11 (p : o.pc = 11) : (mapO off f o).req = .st (f 1) (mapO off f o).next := by
  rw [E.b1, ← E.offw (i := 1) (by decide) (by decide)]
  unfold DOp.req; rw [show (mapO off f o).pc = 11 from p]; rfl
theorem Emb.r12 (p : o.pc = 12) : (mapO off f o).req = .ld (placeD (fz f o.a) o.c (if o.kind = 2 then o.b else o.t)) := by unfold DOp.req; rw [show (mapO off f o).pc = 12 from p]; rfl
theorem Emb.r13 (p : o.pc = 13) : (mapO off f o).req = .cas (f 0) o.t (w64 (o.t + 1)) := by
  have := E.offw (i := 0) (by decide) (by decide)
  rw [E.b0]
  unfold DOp.req; rw [show (mapO off f o).pc = 13 from p]
  show Rq.cas (w64 (off + 0)) _ _ = _
  rw [this, Int.add_zero]; rfl
end

structure KI (A : List Int) (own : DOp) (f : Int → Int) (bl : List Int) : Prop where
  cur : cA A ∈ bl
  bf : ∀ s ∈ bl, Buf A s
  af : ∀ s ∈ bl, Aff A f s (gt A s)
  pn : own.kind = 1 → 6 ≤ own.pc → own.pc ≤ 9 → Aff A f own.a2 own.c2
def KT (th : DOp) (bl : List Int) : Prop := th.kind = 3 → th.pc = 4 ∨ th.pc = 12 → th.a ∈ bl
theorem KI.keep {A A' : List Int} {own own' : DOp} {f : Int → Int} {bl : List Int} (K : KI A own f bl) (hl : (A'.length : Int) = (A.length : Int)) (h2 : gt A' 2 = gt A 2) (hb : ∀ s ∈ bl, gt A' s = gt A s) (hp : own'.kind = 1 → 6 ≤ own'.pc → own'.pc ≤ 9 → Aff A f own'.a2 own'.c2) : KI A' own' f bl := by
  have af : ∀ {s c : Int}, Aff A f s c → Aff A' f s c := fun {s c} h => ⟨h.1, by rw [hl]; exact h.2.1, h.2.2⟩
  refine ⟨by show gt A' 2 ∈ bl; rw [h2]; exact K.cur, fun s hs => ?_, fun s hs => by rw [hb s hs]; exact af (K.af s hs), fun a b c => af (hp a b c)⟩
  obtain ⟨b1, b2, b3, b4⟩ := K.bf s hs
  refine ⟨b1, by rw [hb s hs]; exact b2, by rw [hb s hs]; exact b3, ?_⟩
  show s = gt A' 2 ∨ s + gt A' s + 1 ≤ gt A' 2
  rw [h2, hb s hs]; exact b4
theorem KI.write {A : List Int} {own own' : DOp} {f : Int → Int} {bl : List Int} (K : KI A own f bl) {x w : Int} (h0 : 0 ≤ x) (h1 : x < (A.length : Int)) (h2 : x ≠ 2) (hb : ∀ s ∈ bl, s ≠ x) (hp : own'.kind = 1 → 6 ≤ own'.pc → own'.pc ≤ 9 → Aff A f own'.a2 own'.c2) : KI (A.set x.toNat w) own' f bl :=
  K.keep (by rw [List.length_set]) (gt_set_ne h0 (by decide) (fun q => h2 q.symm)) (fun s hs => gt_set_ne h0 (by have := (K.bf s hs).1; omega) (hb s hs)) hp
section
variable {off : Int} {f : Int → Int} {A J : AS} {o : DOp} {most sz N : Int} {bl : List Int}
theorem sim_push (E : Emb A.cs J.cs off f) (g : DG most sz N A.cs o) (hs : A.sz = sz) (hJ : J.sz ≤ 1048576) (hroom : J.sz - (J.cs.length : Int) ≥ A.sz - (A.cs.length : Int)) (hm : Mach most o) (ho : OwnS most A.cs o) (K : KI A.cs o f bl) (k : o.kind = 1) (pp : o.pc ≠ 0) {v : Int} {A' : AS} (ha : arenaI A o.req = (some v, A')) :
    ∃ f' bl' v' J', SimR off f A J o v A' f' v' J' ∧ KI A'.cs (o.after v) f' bl' ∧ ∀ s ∈ bl, s ∈ bl' := by
  obtain ⟨hb0, hmo⟩ := hm pp
  have a3 := E.a3
  obtain ⟨g1, g2, g3, g4, g5, g6, g7, g8, g9, g10, g11, g12, g13⟩ := g
  have jl := E.jl
  have ho0 := E.off0
  have offw : ∀ i : Int, 0 ≤ i → i ≤ 2 → w64 (off + i) = off + i := fun i a b => by rw [w64_of] <;> omega
  have nx : o.next = w64 (o.b + 1) := by unfold DOp.next; rw [if_pos k]
  have nxm : (mapO off f o).next = o.next := by unfold DOp.next; rw [if_pos k, if_pos (show (mapO off f o).kind = 1 from k)]; rfl
  have hl : (A.cs.length : Int) ≤ 1048576 := by omega
  have cAr : cA A.cs + cC A.cs < (A.cs.length : Int) := (K.af _ K.cur).2.1
  have ld : ∀ x, 0 ≤ x → x < (A.cs.length : Int) → x ≠ 2 → o.req = .ld x → (mapO off f o).req = .ld (f x) → o.pc ≠ 3 → o.pc ≠ 5 → (∀ g, (o.after g).kind = 1 → 6 ≤ (o.after g).pc → (o.after g).pc ≤ 9 → Aff A.cs f (o.after g).a2 (o.after g).c2) →
      ∃ f' bl' v' J', SimR off f A J o v A' f' v' J' ∧ KI A'.cs (o.after v) f' bl' ∧ ∀ s ∈ bl, s ∈ bl' := fun x x0 x1 x2 r r' p3 p5 hp => by
    obtain ⟨v', J', S⟩ := sim_ld E x0 x1 r r' ha fun g g' _ e => by
      rw [if_neg x2] at e
      exact after_map (fun z => absurd z p3) (fun z => absurd z p5) (fun _ _ => e)
    rw [r, ld_ok ⟨x0, x1⟩] at ha
    cases ha
    exact ⟨f, bl, v', J', S, K.keep rfl rfl (fun _ _ => rfl) (hp _), fun s h => h⟩
  have st : ∀ x w, 0 ≤ x → x < (A.cs.length : Int) → x ≠ 2 → (∀ s ∈ bl, s ≠ x) → o.req = .st x w → (mapO off f o).req = .st (f x) w → o.pc ≠ 3 → o.pc ≠ 5 → ((o.after 0).kind = 1 → 6 ≤ (o.after 0).pc → (o.after 0).pc ≤ 9 → Aff A.cs f (o.after 0).a2 (o.after 0).c2) →
      ∃ f' bl' v' J', SimR off f A J o v A' f' v' J' ∧ KI A'.cs (o.after v) f' bl' ∧ ∀ s ∈ bl, s ∈ bl' := fun x w x0 x1 x2 hx r r' p3 p5 hp => by
    obtain ⟨v', J', S⟩ := sim_st E x0 x1 x2 r r' ha (after_map (fun z => absurd z p3) (fun z => absurd z p5) (fun _ _ => rfl))
    rw [r, st_ok ⟨x0, x1⟩] at ha
    cases ha
    exact ⟨f, bl, v', J', S, K.write x0 x1 x2 hx hp, fun s h => h⟩
  have ple : ∀ s ∈ bl, s ≤ cA A.cs := fun s h => by
    obtain ⟨b1, b2, b3, b4⟩ := K.bf s h
    rcases b4 with b4 | b4 <;> omega
  cases ho with
  | idle p => exact absurd p pp
  | po1 k' | po3 k' | po11 k' | po2 k' | po4 k' | po12 k' | po13 k' | pe k' | pf k' => omega
  | pu1 _ p =>
    refine ld 1 (by decide) (by omega) (by decide) (req1 hb0 p) (E.r1 p) (by omega) (by omega) fun g => ?_
    rw [show o.after g = { o with b := g, pc := 2 } from by simp [DOp.after, DOp.pushed, k, p]]
    intro _ h; simp at h
  | pu2 _ p b =>
    refine ld 0 (by decide) (by omega) (by decide) (req2 hb0 p) (E.r2 p) (by omega) (by omega) fun g => ?_
    rw [show o.after g = { o with t := g, pc := 3 } from by simp [DOp.after, DOp.pushed, k, p]]
    intro _ h; simp at h
  | pu3 _ p b t0 t fb =>
    obtain ⟨v', J', S⟩ := sim_ld E (x := 2) (by decide) (by omega) (req3 hb0 p) (E.r3 p) ha fun g g' e e' => by
      rw [if_pos rfl] at e'
      refine after_map (fun _ => ⟨?_, .inl k⟩) (fun z => by omega) (fun z => absurd p z)
      rw [e', fz_pos (by rw [e]; exact g7)]
    rw [req3 hb0 p, ld_ok ⟨by decide, by omega⟩] at ha
    cases ha
    refine ⟨f, bl, v', J', S, K.keep rfl rfl (fun _ _ => rfl) ?_, fun s h => h⟩
    rw [show o.after (gt A.cs 2) = { o with a := gt A.cs 2, pc := 4 } from by simp [DOp.after, DOp.pushed, k, p]]
    intro _ h; simp at h
  | pu4 _ p b t0 t fb a =>
    refine ld o.a (by omega) (by omega) (by omega) (req4 hb0 p) (by rw [E.r4 p, fz_pos (by omega)]) (by omega) (by omega) fun g _ h h' => ?_
    have : ¬ (6 ≤ (o.after g).pc ∧ (o.after g).pc ≤ 9) := by
      unfold DOp.after
      rw [if_pos k]
      unfold DOp.pushed
      rw [if_neg (by omega), if_neg (by omega), if_neg (by omega), if_pos p]
      refine pif (P := fun x : DOp => ¬ (6 ≤ x.pc ∧ x.pc ≤ 9)) (fun _ => by simp [DOp.over]) fun _ => pif (P := fun x : DOp => ¬ (6 ≤ x.pc ∧ x.pc ≤ 9)) (fun _ => by simp) fun _ => pif (P := fun x : DOp => ¬ (6 ≤ x.pc ∧ x.pc ≤ 9)) (fun _ => by simp [DOp.over]) fun _ => by simp
    exact absurd ⟨h, h'⟩ this
  | pu5 _ p b t0 t fb a c lt c2 =>
    have c2r : 1 ≤ o.c2 ∧ o.c2 ≤ 4096 := by rw [c2]; split <;> omega
    have wn : w64 (1 + o.c2) = 1 + o.c2 := by rw [w64_of] <;> omega
    have nA : 1 + o.c2 ≤ A.sz - (A.cs.length : Int) := by
      refine Int.not_lt.1 fun z => ?_
      have : arenaI A (.rs (1 + o.c2)) = (none, A) := by
        show (if 1 + o.c2 < 1 then _ else if A.sz - (A.cs.length : Int) < 1 + o.c2 then _ else _) = _
        rw [if_neg (by omega), if_pos z]
      rw [req5 hb0 p, wn, this] at ha; cases ha
    have e5 : ∀ (x : DOp) (g : Int), x.kind = 1 → x.pc = 5 → x.after g = { x with a2 := g, pc := 6 } := fun x g k p => by simp [DOp.after, DOp.pushed, k, p]
    have gf : grow f A.cs.length J.cs.length (A.cs.length : Int) = (J.cs.length : Int) := by unfold grow; rw [if_neg (by omega)]; omega
    obtain ⟨v', J', S, hA⟩ := sim_rs E (n := 1 + o.c2) (by omega) nA (by omega) hJ (show cA A.cs < (A.cs.length : Int) by omega) (by rw [req5 hb0 p, wn]) (by rw [E.r5 p, wn]) ha (by
      rw [e5 o _ k p, e5 (mapO off f o) _ k p]
      have e1 : fz (grow f A.cs.length J.cs.length) o.a = fz f o.a := by
        rw [fz_pos (by omega), fz_pos (by omega)]; exact if_pos (by omega)
      have e2 : fz (grow f A.cs.length J.cs.length) (A.cs.length : Int) = (J.cs.length : Int) := by rw [fz_pos (a := (A.cs.length : Int)) a3, gf]
      simp only [mapO]
      rw [e1, e2])
    have hv : v = (A.cs.length : Int) := by
      rw [req5 hb0 p, wn, rs_ok (by omega) nA] at ha; cases ha; rfl
    refine ⟨_, bl, v', J', S, ?_, fun s h => h⟩
    rw [hA, hv, e5 o _ k p]
    refine ⟨by show gt (A.cs ++ List.replicate (1 + o.c2).toNat 0) 2 ∈ bl; rw [gt_app]; exact K.cur, fun s hs' => ?_, fun s hs' => by rw [gt_app]; exact Aff.grown (n := 0) (K.af s hs') _, fun _ _ _ => Aff.fresh (c := o.c2) a3 (by omega) (by omega)⟩
    obtain ⟨b1, b2, b3, b4⟩ := K.bf s hs'
    refine ⟨b1, by rw [gt_app]; exact b2, by rw [gt_app]; exact b3, ?_⟩
    show s = gt (A.cs ++ _) 2 ∨ s + gt (A.cs ++ _) s + 1 ≤ gt (A.cs ++ _) 2
    rw [gt_app, gt_app]; exact b4
  | pu6 _ p b t0 t fb a c lt c2 a2 =>
    have pn := K.pn k (by omega) (by omega)
    have c2r : 1 ≤ o.c2 := by rw [c2]; split <;> omega
    refine st o.a2 o.c2 (by omega) (by have := pn.2.1; omega) (by omega) (fun s h => by have := ple s h; omega) (req6 hb0 p) (by rw [E.r6 p, fz_pos (by omega)]) (by omega) (by omega) ?_
    rw [show o.after 0 = { o with i := o.t, pc := 7 } from by simp [DOp.after, DOp.pushed, k, p]]
    exact fun _ _ _ => pn
  | pu7 _ p b t0 t fb a c lt c2 a2 hd i1 i2 cp =>
    have pn := K.pn k (by omega) (by omega)
    have ac : Aff A.cs f o.a o.c := by rw [a, c]; exact K.af _ K.cur
    obtain ⟨q1, q2, q3, q4⟩ := E.place (i := o.i) ac (by omega) (by omega) (by omega) hl
    refine ld (pl o.a o.c o.i) (by omega) q4 (by omega) (by rw [req7 hb0 p, q1]) (by rw [E.r7 p, fz_pos (by omega), q2]) (by omega) (by omega) fun g => ?_
    rw [show o.after g = { o with x := g, pc := 8 } from by simp [DOp.after, DOp.pushed, k, p]]
    exact fun _ _ _ => pn
  | pu8 _ p b t0 t fb a c lt c2 a2 hd i1 i2 cp x =>
    have pn := K.pn k (by omega) (by omega)
    have c2r : 1 ≤ o.c2 ∧ o.c2 ≤ 4096 := by rw [c2]; split <;> omega
    obtain ⟨q1, q2, q3, q4⟩ := E.place (i := o.i) pn c2r.1 c2r.2 (by omega) hl
    have hp := pl_range (a := o.a2) (c := o.c2) (i := o.i) c2r.1
    refine st (pl o.a2 o.c2 o.i) o.x (by omega) q4 (by omega) (fun s h => by have := ple s h; omega) (by rw [req8 hb0 p, q1]) (by rw [E.r8 p, fz_pos (by omega), q2]) (by omega) (by omega) ?_
    have : o.after 0 = if w64 (o.i + 1) = o.b then { o with i := w64 (o.i + 1), pc := 9 } else { o with i := w64 (o.i + 1), pc := 7 } := by simp [DOp.after, DOp.pushed, k, p]
    rw [this]
    exact pif (P := fun y : DOp => y.kind = 1 → 6 ≤ y.pc → y.pc ≤ 9 → Aff A.cs f y.a2 y.c2) (fun _ _ _ _ => pn) fun _ _ _ _ => pn
  | pu9 _ p b t0 t fb a c lt c2 a2 hd cp =>
    have pn := K.pn k (by omega) (by omega)
    have c2r : 1 ≤ o.c2 ∧ o.c2 ≤ 4096 := by rw [c2]; split <;> omega
    have e9 : ∀ (x : DOp), x.kind = 1 → x.pc = 9 → x.after 0 = { x with a := x.a2, c := x.c2, pc := 10 } := fun x k p => by simp [DOp.after, DOp.pushed, k, p]
    obtain ⟨v', J', S⟩ := sim_st2 E (w := o.a2) (req9 hb0 p) (by rw [E.r9 p, fz_pos (by omega)]) ha (after_map (fun z => by omega) (fun z => by omega) (fun _ _ => rfl))
    rw [req9 hb0 p, st_ok ⟨by decide, by omega⟩] at ha
    cases ha
    refine ⟨f, o.a2 :: bl, v', J', S, ?_, fun s h => List.mem_cons_of_mem _ h⟩
    rw [e9 o k p]
    have g2' : gt (A.cs.set (2 : Int).toNat o.a2) 2 = o.a2 := by rw [gt_set (by decide) (by omega) (by decide), if_pos rfl]
    have gs : ∀ s, 3 ≤ s → gt (A.cs.set (2 : Int).toNat o.a2) s = gt A.cs s := fun s h => gt_set_ne (by decide) (by omega) (by omega)
    have af : ∀ {s c : Int}, Aff A.cs f s c → Aff (A.cs.set (2 : Int).toNat o.a2) f s c := fun {s c} h => ⟨h.1, by rw [List.length_set]; exact h.2.1, h.2.2⟩
    refine ⟨?_, fun s hs' => ?_, fun s hs' => ?_, fun _ h h' => ?_⟩
    · show gt (A.cs.set (2 : Int).toNat o.a2) 2 ∈ _
      rw [g2']; exact List.mem_cons_self
    · show Buf (A.cs.set (2 : Int).toNat o.a2) s
      rcases List.mem_cons.1 hs' with rfl | hs'
      · refine ⟨by omega, by rw [gs _ (by omega), hd]; exact c2r.1, by rw [gs _ (by omega), hd]; exact c2r.2, .inl g2'.symm⟩
      · obtain ⟨b1, b2, b3, b4⟩ := K.bf s hs'
        refine ⟨b1, by rw [gs s b1]; exact b2, by rw [gs s b1]; exact b3, .inr ?_⟩
        show s + gt (A.cs.set (2 : Int).toNat o.a2) s + 1 ≤ gt (A.cs.set (2 : Int).toNat o.a2) 2
        rw [g2', gs s b1]
        rcases b4 with rfl | b4
        · show cA A.cs + cC A.cs + 1 ≤ o.a2; omega
        · omega
    · show Aff (A.cs.set (2 : Int).toNat o.a2) f s (gt (A.cs.set (2 : Int).toNat o.a2) s)
      rcases List.mem_cons.1 hs' with rfl | hs'
      · rw [gs _ (by omega), hd]; exact af pn
      · rw [gs s (K.bf s hs').1]; exact af (K.af s hs')
    · simp at h'
  | pu10 _ p b t0 t fb a c =>
    have ac : Aff A.cs f o.a o.c := by rw [a, c]; exact K.af _ K.cur
    have hB : Bl A.cs o = gt A.cs 1 := Bl_up (low1 k)
    rw [hB] at g3
    obtain ⟨q1, q2, q3, q4⟩ := E.place (i := o.b) ac (by omega) (by omega) (by omega) hl
    have hp := pl_range (a := o.a) (c := o.c) (i := o.b) (by omega)
    refine st (pl o.a o.c o.b) o.v (by omega) q4 (by omega) (fun s h => by have := ple s h; omega) (by rw [req10 hb0 p, q1]) (by rw [E.r10 p, fz_pos (by omega), q2]) (by omega) (by omega) ?_
    rw [show o.after 0 = { o with pc := 11 } from by simp [DOp.after, DOp.pushed, k, p]]
    intro _ _ h; simp at h
  | pu11 _ p =>
    refine st 1 o.next (by decide) (by omega) (by decide) (fun s h => by have := (K.bf s h).1; omega) (req11 hb0 p) (by rw [E.r11 p, nxm]) (by omega) (by omega) ?_
    rw [show o.after 0 = o.over 2 0 from by simp [DOp.after, DOp.pushed, k, p]]
    intro _ h; simp [DOp.over] at h
theorem sim_ld' (E : Emb A.cs J.cs off f) {x : Int} (x0 : 0 ≤ x) (x1 : x < (A.cs.length : Int)) (x2 : x ≠ 2) (r : o.req = .ld x) (r' : (mapO off f o).req = .ld (f x)) (p3 : o.pc ≠ 3) (p5 : o.pc ≠ 5) {v : Int} {A' : AS} (ha : arenaI A o.req = (some v, A')) : ∃ v' J', SimR off f A J o v A' f v' J' ∧ A'.cs = A.cs := by
  obtain ⟨v', J', S⟩ := sim_ld E x0 x1 r r' ha fun g g' _ e => by
    rw [if_neg x2] at e
    exact after_map (fun z => absurd z p3) (fun z => absurd z p5) (fun _ _ => e)
  rw [r, ld_ok ⟨x0, x1⟩] at ha
  cases ha
  exact ⟨v', J', S, rfl⟩
theorem sim_buf (E : Emb A.cs J.cs off f) (p : o.pc = 3) (hb0 : o.base = 0) (k : o.kind = 1 ∨ o.kind = 2 ∨ o.kind = 3) (g7 : 3 ≤ cA A.cs) {v : Int} {A' : AS} (ha : arenaI A o.req = (some v, A')) : ∃ v' J', SimR off f A J o v A' f v' J' ∧ A'.cs = A.cs ∧ v = cA A.cs := by
  have a3 := E.a3
  obtain ⟨v', J', S⟩ := sim_ld E (x := 2) (by decide) (by omega) (req3 hb0 p) (E.r3 p) ha fun g g' e e' => by
    rw [if_pos rfl] at e'
    refine after_map (fun _ => ⟨?_, k⟩) (fun z => by omega) (fun z => absurd p z)
    rw [e', fz_pos (by rw [e]; exact g7)]
  rw [req3 hb0 p, ld_ok ⟨by decide, by omega⟩] at ha
  cases ha
  exact ⟨v', J', S, rfl, rfl⟩
theorem sim_pop (E : Emb A.cs J.cs off f) (g : DG most sz N A.cs o) (hs : A.sz = sz) (hm : Mach most o) (ho : OwnS most A.cs o) (K : KI A.cs o f bl) (k : o.kind = 2) (pp : o.pc ≠ 0) {v : Int} {A' : AS} (ha : arenaI A o.req = (some v, A')) :
    ∃ v' J', SimR off f A J o v A' f v' J' ∧ KI A'.cs (o.after v) f bl := by
  obtain ⟨hb0, hmo⟩ := hm pp
  have a3 := E.a3
  obtain ⟨g1, g2, g3, g4, g5, g6, g7, g8, g9, g10, g11, g12, g13⟩ := g
  have hl : (A.cs.length : Int) ≤ 1048576 := by omega
  have cAf := K.af _ K.cur
  have cAr : cA A.cs + cC A.cs < (A.cs.length : Int) := cAf.2.1
  have nxm : (mapO off f o).next = o.next := rfl
  have hk : ∀ g, (o.after g).kind = 2 := fun g => by rw [(o.after_same g).1]; exact k
  have ld : (∃ v' J', SimR off f A J o v A' f v' J' ∧ A'.cs = A.cs) → ∃ v' J', SimR off f A J o v A' f v' J' ∧ KI A'.cs (o.after v) f bl := fun ⟨v', J', S, e⟩ =>
    ⟨v', J', S, by rw [e]; exact K.keep rfl rfl (fun _ _ => rfl) fun z => by rw [hk] at z; omega⟩
  have st1 : o.req = .st 1 o.next → (mapO off f o).req = .st (f 1) o.next → o.pc = 11 → ∃ v' J', SimR off f A J o v A' f v' J' ∧ KI A'.cs (o.after v) f bl := fun r r' p => by
    obtain ⟨v', J', S⟩ := sim_st E (x := 1) (by decide) (by omega) (by decide) r r' ha (after_map (fun z => by omega) (fun z => by omega) (fun _ _ => rfl))
    rw [r, st_ok ⟨by decide, by omega⟩] at ha
    cases ha
    exact ⟨v', J', S, K.write (by decide) (by omega) (by decide) (fun s h => by have := (K.bf s h).1; omega) fun z => by rw [hk] at z; omega⟩
  cases ho with
  | idle p => exact absurd p pp
  | pu1 k' | pu2 k' | pu3 k' | pu4 k' | pu5 k' | pu6 k' | pu7 k' | pu8 k' | pu9 k' | pu10 k' | pu11 k' => omega
  | po1 _ p i w => exact ld (sim_ld' E (x := 1) (by decide) (by omega) (by decide) (req1 hb0 p) (E.r1 p) (by omega) (by omega) ha)
  | po3 _ p i w b =>
    obtain ⟨v', J', S, e, _⟩ := sim_buf E p hb0 (.inr (.inl k)) g7 ha
    exact ld ⟨v', J', S, e⟩
  | po11 _ p i w b a => exact st1 (req11 hb0 p) (by rw [E.r11 p, nxm]) p
  | po2 _ p i w b a => exact ld (sim_ld' E (x := 0) (by decide) (by omega) (by decide) (req2 hb0 p) (E.r2 p) (by omega) (by omega) ha)
  | po4 _ p i w b a t0 t tb => exact ld (sim_ld' E (x := o.a) (by omega) (by omega) (by omega) (req4 hb0 p) (by rw [E.r4 p, fz_pos (by omega)]) (by omega) (by omega) ha)
  | po12 _ p i w b a t0 t tb c =>
    have ac : Aff A.cs f o.a o.c := by rw [a, c]; exact cAf
    obtain ⟨q1, q2, q3, q4⟩ := E.place (i := o.b) ac (by omega) (by omega) (by omega) hl
    exact ld (sim_ld' E (x := pl o.a o.c o.b) (by omega) q4 (by omega) (by rw [req12 hb0 p, if_pos k, q1]) (by rw [E.r12 p, if_pos k, fz_pos (by omega), q2]) (by omega) (by omega) ha)
  | po13 _ p i w b t0 t tb x =>
    obtain ⟨v', J', S⟩ := sim_cas E (req13 hb0 p) (E.r13 p) ha fun g => after_map (fun z => by omega) (fun z => by omega) (fun _ _ => rfl)
    refine ⟨v', J', S, ?_⟩
    have h0 : (0 : Int) < (A.cs.length : Int) := by omega
    have eA : arenaI A (.cas 0 o.t (w64 (o.t + 1))) = (some (if gt A.cs 0 = o.t then 1 else 0), AS.log { A with cs := if gt A.cs 0 = o.t then A.cs.set (0 : Int).toNat (w64 (o.t + 1)) else A.cs } (A.who, (2, (0, (o.t, (w64 (o.t + 1), (decide (gt A.cs 0 = o.t), ()))))))) := if_pos ⟨by decide, h0⟩
    rw [req13 hb0 p, eA] at ha
    cases ha
    show KI (if gt A.cs 0 = o.t then A.cs.set (0 : Int).toNat (w64 (o.t + 1)) else A.cs) _ f bl
    by_cases e : gt A.cs 0 = o.t
    · rw [if_pos e]; exact K.write (by decide) h0 (by decide) (fun s h => by have := (K.bf s h).1; omega) fun z => by rw [hk] at z; omega
    · rw [if_neg e]; exact K.keep rfl rfl (fun _ _ => rfl) fun z => by rw [hk] at z; omega
  | pe _ p i w b t tt => exact st1 (req11 hb0 p) (by rw [E.r11 p, nxm]) p
  | pf _ p i b t tt => exact st1 (req11 hb0 p) (by rw [E.r11 p, nxm]) p
theorem sim_thief {own : DOp} (E : Emb A.cs J.cs off f) (g : DG most sz N A.cs own) (hs : A.sz = sz) (hnw : 0 ≤ newer own) (hm : Mach most o) (ho : ThS A.cs own o) (K : KI A.cs own f bl) (KTo : KT o bl) (pp : o.pc ≠ 0) {v : Int} {A' : AS} (ha : arenaI A o.req = (some v, A')) :
    ∃ v' J', SimR off f A J o v A' f v' J' ∧ KI A'.cs own f bl ∧ KT (o.after v) bl := by
  obtain ⟨hb0, hmo⟩ := hm pp
  have a3 := E.a3
  obtain ⟨g1, g2, g3, g4, g5, g6, g7, g8, g9, g10, g11, g12, g13⟩ := g
  have hl : (A.cs.length : Int) ≤ 1048576 := by omega
  have ld : KT (o.after v) bl → (∃ v' J', SimR off f A J o v A' f v' J' ∧ A'.cs = A.cs) → ∃ v' J', SimR off f A J o v A' f v' J' ∧ KI A'.cs own f bl ∧ KT (o.after v) bl := fun kt ⟨v', J', S, e⟩ =>
    ⟨v', J', S, by rw [e]; exact K, kt⟩
  cases ho with
  | idle p => exact absurd p pp
  | st2 k p =>
    refine ld ?_ (sim_ld' E (x := 0) (by decide) (by omega) (by decide) (req2 hb0 p) (E.r2 p) (by omega) (by omega) ha)
    rw [show o.after v = { o with t := v, pc := 1 } from by simp [DOp.after, DOp.stolen, k, p]]
    intro _ h; simp at h
  | st1 k p t0 t =>
    refine ld ?_ (sim_ld' E (x := 1) (by decide) (by omega) (by decide) (req1 hb0 p) (E.r1 p) (by omega) (by omega) ha)
    have : o.after v = if v ≤ o.t then DOp.over { o with b := v, pc := 3 } 5 0 else { o with b := v, pc := 3 } := by simp [DOp.after, DOp.stolen, k, p]
    rw [this]
    exact pif (P := fun y : DOp => KT y bl) (fun _ _ h => by simp [DOp.over] at h) fun _ _ h => by simp at h
  | st3 k p t0 t av =>
    obtain ⟨v', J', S, e, hv⟩ := sim_buf E p hb0 (.inr (.inr k)) g7 ha
    refine ld ?_ ⟨v', J', S, e⟩
    rw [show o.after v = { o with a := v, pc := 4 } from by simp [DOp.after, DOp.stolen, k, p], hv]
    exact fun _ _ => K.cur
  | st4 k p t0 t av bf ee =>
    have hb := KTo k (.inl p)
    have af := K.af _ hb
    obtain ⟨b1, b2, b3, b4⟩ := K.bf _ hb
    refine ld ?_ (sim_ld' E (x := o.a) (by omega) (by have := af.2.1; omega) (by omega) (req4 hb0 p) (by rw [E.r4 p, fz_pos (by omega)]) (by omega) (by omega) ha)
    have : o.after v = if v < 1 then DOp.over { o with c := v, pc := 12 } 1 0 else { o with c := v, pc := 12 } := by simp [DOp.after, DOp.stolen, k, p]
    rw [this]
    exact pif (P := fun y : DOp => KT y bl) (fun _ _ _ => hb) fun _ _ _ => hb
  | st12 k p t0 t av bf c ee =>
    have hb := KTo k (.inr p)
    obtain ⟨b1, b2, b3, b4⟩ := K.bf _ hb
    have ac : Aff A.cs f o.a o.c := by rw [c]; exact K.af _ hb
    obtain ⟨q1, q2, q3, q4⟩ := E.place (i := o.t) ac (by omega) (by omega) t0 hl
    refine ld ?_ (sim_ld' E (x := pl o.a o.c o.t) (by omega) q4 (by omega) (by rw [req12 hb0 p, if_neg (by omega), q1]) (by rw [E.r12 p, if_neg (by omega), fz_pos (by omega), q2]) (by omega) (by omega) ha)
    rw [show o.after v = { o with x := v, pc := 13 } from by simp [DOp.after, DOp.stolen, k, p]]
    intro _ h; simp at h
  | st13 k p t0 t av x =>
    obtain ⟨v', J', S⟩ := sim_cas E (req13 hb0 p) (E.r13 p) ha fun g => after_map (fun z => by omega) (fun z => by omega) (fun _ _ => rfl)
    have h0 : (0 : Int) < (A.cs.length : Int) := by omega
    have eA : arenaI A (.cas 0 o.t (w64 (o.t + 1))) = (some (if gt A.cs 0 = o.t then 1 else 0), AS.log { A with cs := if gt A.cs 0 = o.t then A.cs.set (0 : Int).toNat (w64 (o.t + 1)) else A.cs } (A.who, (2, (0, (o.t, (w64 (o.t + 1), (decide (gt A.cs 0 = o.t), ()))))))) := if_pos ⟨by decide, h0⟩
    rw [req13 hb0 p, eA] at ha
    have kt : KT (o.after v) bl := by
      have : o.after v = if v = 1 then o.over 4 o.x else o.over 6 0 := by simp [DOp.after, DOp.stolen, k, p]
      rw [this]
      exact pif (P := fun y : DOp => KT y bl) (fun _ _ h => by simp [DOp.over] at h) fun _ _ h => by simp [DOp.over] at h
    refine ⟨v', J', S, ?_, kt⟩
    cases ha
    show KI (if gt A.cs 0 = o.t then A.cs.set (0 : Int).toNat (w64 (o.t + 1)) else A.cs) _ f bl
    by_cases e : gt A.cs 0 = o.t
    · rw [if_pos e]; exact K.write (by decide) h0 (by decide) (fun s h => by have := (K.bf s h).1; omega) K.pn
    · rw [if_neg e]; exact K
  | lk2 k p =>
    refine ld ?_ (sim_ld' E (x := 0) (by decide) (by omega) (by decide) (req2 hb0 p) (E.r2 p) (by omega) (by omega) ha)
    intro z; rw [(o.after_same v).1] at z; omega
  | lk1 k p t0 t =>
    refine ld ?_ (sim_ld' E (x := 1) (by decide) (by omega) (by decide) (req1 hb0 p) (E.r1 p) (by omega) (by omega) ha)
    intro z; rw [(o.after_same v).1] at z; omega
end
end Go.Mx

namespace Go.Mx

structure DevI (most sz N off : Int) (A J : AS) (f : Int → Int) (bl : List Int) (own th : DOp) : Prop where
  emb : Emb A.cs J.cs off f
  dg : DG most sz N A.cs own
  sz : A.sz = sz
  os : OwnS most A.cs own
  ths : ThS A.cs own th
  mo : Mach most own
  mt : Mach most th
  ki : KI A.cs own f bl
  kt : KT th bl
  ra : (th.a = 0 ∨ (3 ≤ th.a ∧ th.a < (A.cs.length : Int))) ∧ th.a2 = 0
  ko : own.pc ≠ 0 → own.kind = 1 ∨ own.kind = 2
  kth : th.pc ≠ 0 → th.kind = 3
def MO (off : Int) (f : Int → Int) (o oJ : DOp) : Prop := (o = DOp.zero ∧ oJ = DOp.zero) ∨ (o.kind ≠ 0 ∧ oJ = mapO off f o)
theorem mapO_answer {off : Int} {f : Int → Int} {o : DOp} (k : o.kind ≠ 0) : (mapO off f o).answer = o.answer := by
  unfold DOp.answer
  rw [if_neg (fun e : mapO off f o = DOp.zero => k (congrArg DOp.kind e)), if_neg (fun e : o = DOp.zero => k (congrArg DOp.kind e))]
  rfl
theorem MO.answer {off f o oJ} (m : MO off f o oJ) : oJ.answer = o.answer := by
  rcases m with ⟨rfl, rfl⟩ | ⟨k, rfl⟩
  · rfl
  · exact mapO_answer k
theorem fz0 (f : Int → Int) : fz f 0 = 0 := if_pos rfl
theorem mapO_begin {off most v k p : Int} {f : Int → Int} (m1 : 1 ≤ most) (m2 : most ≤ 4096) : mapO off f (DOp.begin k p 0 most v) = DOp.begin k p off most v := by
  rw [begin_eq m1 m2, begin_eq m1 m2]
  unfold mapO
  simp [fz0]
theorem Emb.other {A B J J' : List Int} {off : Int} {f g : Int → Int} (E : Emb B J off g) (hr : ∀ y, 0 ≤ y → y < (J.length : Int) → (∀ x, 0 ≤ x → x < (A.length : Int) → f x ≠ y) → gt J' y = gt J y) (dis : ∀ x y, 0 ≤ x → x < (A.length : Int) → 0 ≤ y → y < (B.length : Int) → f x ≠ g y) (hl : (J.length : Int) ≤ (J'.length : Int)) (hj : (J'.length : Int) ≤ 1048576) : Emb B J' off g := by
  have keep : ∀ y, 0 ≤ y → y < (B.length : Int) → gt J' (g y) = gt J (g y) := fun y a b => hr _ (E.rng y a b).1 (E.rng y a b).2 fun x c d => dis x y c d a b
  have a3 := E.a3
  exact ⟨E.b0, E.b1, E.b2, E.a3, hj, fun x a b => ⟨(E.rng x a b).1, by have := (E.rng x a b).2; omega⟩, E.inj, fun x a b n => by rw [keep x a b]; exact E.cell x a b n, by rw [keep 2 (by decide) (by omega)]; exact E.buf⟩
theorem DevI.other {most' sz' N' off' : Int} {A B J J' : AS} {f g : Int → Int} {bl' : List Int} {own' th' : DOp} (D : DevI most' sz' N' off' B J g bl' own' th') (hr : ∀ y, 0 ≤ y → y < (J.cs.length : Int) → (∀ x, 0 ≤ x → x < (A.cs.length : Int) → f x ≠ y) → gt J'.cs y = gt J.cs y) (dis : ∀ x y, 0 ≤ x → x < (A.cs.length : Int) → 0 ≤ y → y < (B.cs.length : Int) → f x ≠ g y) (hl : (J.cs.length : Int) ≤ (J'.cs.length : Int)) (hj : (J'.cs.length : Int) ≤ 1048576) : DevI most' sz' N' off' B J' g bl' own' th' :=
  { D with emb := D.emb.other hr dis hl hj }
theorem stolen_a (o : DOp) (g : Int) (k : o.kind = 3) : (o.after g).a2 = o.a2 ∧ (o.after g).a = if o.pc = 3 then g else o.a := by
  have e : o.after g = o.stolen g := by unfold DOp.after; rw [if_neg (by omega), if_neg (by omega), if_pos k]
  rw [e]
  unfold DOp.stolen
  by_cases p3 : o.pc = 3
  · rw [if_neg (by omega), if_neg (by omega), if_pos p3, if_pos p3]; exact ⟨rfl, rfl⟩
  rw [if_neg p3, if_neg p3]
  exact pif (P := fun x : DOp => x.a2 = o.a2 ∧ x.a = o.a) (fun _ => ⟨rfl, rfl⟩) fun _ => pif (P := fun x : DOp => x.a2 = o.a2 ∧ x.a = o.a) (fun _ => pif (P := fun x : DOp => x.a2 = o.a2 ∧ x.a = o.a) (fun _ => ⟨rfl, rfl⟩) fun _ => ⟨rfl, rfl⟩) fun _ =>
    pif (P := fun x : DOp => x.a2 = o.a2 ∧ x.a = o.a) (fun _ => pif (P := fun x : DOp => x.a2 = o.a2 ∧ x.a = o.a) (fun _ => ⟨rfl, rfl⟩) fun _ => ⟨rfl, rfl⟩) fun _ => pif (P := fun x : DOp => x.a2 = o.a2 ∧ x.a = o.a) (fun _ => ⟨rfl, rfl⟩) fun _ =>
    pif (P := fun x : DOp => x.a2 = o.a2 ∧ x.a = o.a) (fun _ => pif (P := fun x : DOp => x.a2 = o.a2 ∧ x.a = o.a) (fun _ => ⟨rfl, rfl⟩) fun _ => ⟨rfl, rfl⟩) fun _ => ⟨rfl, rfl⟩
structure TurnR (most sz N off : Int) (A J : AS) (f : Int → Int) (own th : DOp) (A' J' : AS) (f' : Int → Int) (bl' : List Int) (own' th' : DOp) : Prop where
  dev : DevI most sz N off A' J' f' bl' own' th'
  old : ∀ x, 0 ≤ x → x < (A.cs.length : Int) → f' x = f x
  new : ∀ x, (A.cs.length : Int) ≤ x → x < (A'.cs.length : Int) → (J.cs.length : Int) ≤ f' x
  len : (J'.cs.length : Int) - (J.cs.length : Int) = (A'.cs.length : Int) - (A.cs.length : Int)
  alen : (A.cs.length : Int) ≤ (A'.cs.length : Int)
  jsz : J'.sz = J.sz
  rest : ∀ y, 0 ≤ y → y < (J.cs.length : Int) → (∀ x, 0 ≤ x → x < (A.cs.length : Int) → f x ≠ y) → gt J'.cs y = gt J.cs y
theorem SimR.step {off f A J o v A' f' v' J'} (S : SimR off f A J o v A' f' v' J') (z : o.kind ≠ 0) (p : o.pc ≠ 0) : stepD arenaI J (mapO off f o) = (J', mapO off f' (o.after v)) := by
  unfold stepD
  rw [if_neg (fun e : mapO off f o = DOp.zero => z (congrArg DOp.kind e)), if_neg (show ¬ (mapO off f o).pc = 0 from p), S.acc, S.op]
theorem step_acc {A A' : AS} {o : DOp} {v : Int} (z : o.kind ≠ 0) (p : o.pc ≠ 0) (h : arenaI A o.req = (some v, A')) : stepD arenaI A o = (A', o.after v) := by
  unfold stepD
  rw [if_neg (fun e : o = DOp.zero => z (congrArg DOp.kind e)), if_neg p, h]
theorem DG.up {most sz N : Int} {cs : List Int} {own : DOp} (g : DG most sz N cs own) (nn : N + 1 ≤ 1000000000) : DG most sz (N + 1) cs own := by
  obtain ⟨g1, g2, g3, g4, g5, g6, g7, g8, g9, g10, g11, g12, g13⟩ := g
  exact ⟨g1, g2, g3, g4, by omega, nn, g7, g8, g9, g10, g11, g12, g13⟩
section
variable {most sz N off : Int} {A J : AS} {f : Int → Int} {bl : List Int} {own th : DOp} (D : DevI most sz N off A J f bl own th) (nn : N + 1 ≤ 1000000000)
include D nn
theorem DevI.thiefS (pp : th.pc ≠ 0) : ∃ J', stepD arenaI J (mapO off f th) = (J', mapO off f (stepD arenaI A th).2) ∧ TurnR most sz (N + 1) off A J f own th (stepD arenaI A th).1 J' f bl own (stepD arenaI A th).2 ∧ (stepD arenaI A th).2.answer.1 ≠ 1 ∧ (stepD arenaI A th).2.kind ≠ 0 := by
  obtain ⟨E, g, hs, os, ts, mo, mt, K, kt, ra, ko, kth⟩ := D
  have k := kth pp
  have hk0 : th.kind ≠ 0 := by omega
  have hnw := newer_nn os g.c1 g.cm
  obtain ⟨v, A', ha, R⟩ := th_step g hnw mt os ts pp
  rw [step_acc hk0 pp ha]
  show ∃ J', stepD arenaI J (mapO off f th) = (J', mapO off f (th.after v)) ∧ TurnR most sz (N + 1) off A J f own th A' J' f bl own (th.after v) ∧ (th.after v).answer.1 ≠ 1 ∧ (th.after v).kind ≠ 0
  obtain ⟨v', J', S, K', kt'⟩ := sim_thief E g hs hnw mt ts K kt pp ha
  have hk' : (th.after v).kind = th.kind := (th.after_same v).1
  obtain ⟨a2, aa⟩ := stolen_a th v k
  have al := S.alen
  have az : A'.sz = sz := by
    have e : A'.sz = A.sz := by
      have h2 : A' = (arenaI A th.req).2 := by rw [ha]
      rw [h2]
      cases th.req with
      | ld a => exact pif (P := fun p : Option Int × AS => p.2.sz = A.sz) (fun _ => rfl) fun _ => rfl
      | st a v => exact pif (P := fun p : Option Int × AS => p.2.sz = A.sz) (fun _ => rfl) fun _ => rfl
      | cas a x y => exact pif (P := fun p : Option Int × AS => p.2.sz = A.sz) (fun _ => rfl) fun _ => rfl
      | rs n => exact pif (P := fun p : Option Int × AS => p.2.sz = A.sz) (fun _ => rfl) fun _ => pif (P := fun p : Option Int × AS => p.2.sz = A.sz) (fun _ => rfl) fun _ => rfl
    rw [e, hs]
  refine ⟨J', S.step hk0 pp, ⟨⟨S.emb, R.dg.up nn, az, R.os, R.me, mo, fun p => ?_, K', kt', ⟨?_, by rw [a2]; exact ra.2⟩, ko, fun _ => by rw [hk']; exact k⟩, S.old, S.new, S.len, al, S.sz, S.rest⟩, ?_, by rw [hk']; exact hk0⟩
  · obtain ⟨_, hb, hm, _⟩ := th.after_same v
    rw [hb, hm]; exact mt pp
  · rw [aa]
    by_cases p3 : th.pc = 3
    · rw [if_pos p3]
      have hb0 := (mt pp).1
      rw [req3 hb0 p3, ld_ok ⟨by decide, by have := E.a3; omega⟩] at ha
      cases ha
      have := (K.af _ K.cur)
      have h1 := this.1
      have h2 := this.2.1
      have h3 : 1 ≤ gt A.cs (cA A.cs) := g.c1
      exact .inr ⟨h1, by show cA A.cs < (A.cs.length : Int); omega⟩
    · rw [if_neg p3]; exact ra.1.imp id fun z => ⟨z.1, by omega⟩
  · unfold DOp.answer
    rw [if_neg (fun e : th.after v = DOp.zero => hk0 (by rw [← hk', e]; rfl))]
    by_cases p0 : (th.after v).pc = 0
    · rw [if_neg (fun z => z p0)]
      cases R.eff with
      | same p => exact absurd p0 p
      | empty k p co => show (th.after v).code ≠ 1; rw [co]; decide
      | lost k p co => show (th.after v).code ≠ 1; rw [co]; decide
      | got k p co => show (th.after v).code ≠ 1; rw [co]; decide
      | look k p co => show (th.after v).code ≠ 1; rcases co with co | co <;> rw [co] <;> decide
    · rw [if_pos p0]; decide
end

theorem DevI.up {most sz N off : Int} {A J : AS} {f : Int → Int} {bl : List Int} {own th : DOp} (D : DevI most sz N off A J f bl own th) (nn : N + 1 ≤ 1000000000) : DevI most sz (N + 1) off A J f bl own th := { D with dg := D.dg.up nn }
theorem DevI.begT {most sz N off : Int} {A J : AS} {f : Int → Int} {bl : List Int} {own th : DOp} (D : DevI most sz N off A J f bl own th) {v : Int} : DevI most sz N off A J f bl own (DOp.begin 3 2 0 most v) := by
  have m1 : 1 ≤ most := by have := D.dg.c1; have := D.dg.cm; omega
  have m2 := D.dg.mx
  rw [begin_eq m1 m2]
  exact ⟨D.emb, D.dg, D.sz, D.os, .st2 rfl rfl, D.mo, fun _ => ⟨rfl, rfl⟩, D.ki, fun _ h => by simp at h, ⟨.inl rfl, rfl⟩, D.ko, fun _ => rfl⟩
structure AptI (most sz off most' sz' off' N : Int) (J A B : AS) (f : Int → Int) (bl : List Int) (g : Int → Int) (bl' : List Int) (o t o' t' : DOp) : Prop where
  d : DevI most sz N off A J f bl o t
  d' : DevI most' sz' N off' B J g bl' o' t'
  dis : ∀ x y, 0 ≤ x → x < (A.cs.length : Int) → 0 ≤ y → y < (B.cs.length : Int) → f x ≠ g y
  len : (J.cs.length : Int) = (A.cs.length : Int) + (B.cs.length : Int)
  jsz : J.sz = sz + sz'
  j1 : J.sz ≤ 1048576
theorem AptI.turn {most sz off most' sz' off' N : Int} {J A B : AS} {f : Int → Int} {bl : List Int} {g : Int → Int} {bl' : List Int} {o t o' t' : DOp} (I : AptI most sz off most' sz' off' N J A B f bl g bl' o t o' t') (nn : N + 1 ≤ 1000000000) {A1 J1 : AS} {f1 : Int → Int} {bl1 : List Int} {o1 t1 o0 t0 : DOp} (T : TurnR most sz (N + 1) off A J f o0 t0 A1 J1 f1 bl1 o1 t1) : AptI most sz off most' sz' off' (N + 1) J1 A1 B f1 bl1 g bl' o1 t1 o' t' := by
  have h1 := T.len
  have h2 := T.alen
  refine ⟨T.dev, (I.d'.other T.rest I.dis (by omega) T.dev.emb.jl).up nn, fun x y a b c d e => ?_, by have := I.len; omega, by rw [T.jsz]; exact I.jsz, by rw [T.jsz]; exact I.j1⟩
  by_cases h : x < (A.cs.length : Int)
  · rw [T.old x a h] at e; exact I.dis x y a h c d e
  · have h3 := T.new x (by omega) b
    have h4 := (I.d'.emb.rng y c d).2
    omega
def turnB (base most : Int) (th pop : Bool) (v : Int) (o : DOp) : DOp := if o.answer.1 ≠ 0 then (if th = true then DOp.steal base most else if pop = true then DOp.pop base most else DOp.push base most v) else o
section
variable {most sz off most' sz' off' N : Int} {J A B : AS} {f : Int → Int} {bl : List Int} {g : Int → Int} {bl' : List Int} {o t o' t' : DOp} (I : AptI most sz off most' sz' off' N J A B f bl g bl' o t o' t') (nn : N + 1 ≤ 1000000000)
include I nn
theorem AptI.thief {oJ tJ : DOp} (ho : MO off f o oJ) (ht : MO off f t tJ) (pop : Bool) (v : Int) : AptI most sz off most' sz' off' (N + 1) (stepD arenaI J (turnB off most true pop v tJ)).1 (stepD arenaI A (turnB 0 most true pop v t)).1 B f bl g bl' o (stepD arenaI A (turnB 0 most true pop v t)).2 o' t' ∧
    MO off f (stepD arenaI A (turnB 0 most true pop v t)).2 (stepD arenaI J (turnB off most true pop v tJ)).2 ∧ (stepD arenaI A (turnB 0 most true pop v t)).2.answer.1 ≠ 1 := by
  have m1 : 1 ≤ most := by have := I.d.dg.c1; have := I.d.dg.cm; omega
  have m2 := I.d.dg.mx
  have main : ∀ x : DOp, DevI most sz N off A J f bl o x → x.pc ≠ 0 → AptI most sz off most' sz' off' (N + 1) (stepD arenaI J (mapO off f x)).1 (stepD arenaI A x).1 B f bl g bl' o (stepD arenaI A x).2 o' t' ∧
      MO off f (stepD arenaI A x).2 (stepD arenaI J (mapO off f x)).2 ∧ (stepD arenaI A x).2.answer.1 ≠ 1 := fun x D p => by
    obtain ⟨J', e, T, a1, k1⟩ := D.thiefS nn p
    rw [e]
    exact ⟨I.turn nn T, .inr ⟨k1, rfl⟩, a1⟩
  have ea := ht.answer
  unfold turnB
  rw [ea]
  by_cases h : t.answer.1 ≠ 0
  · rw [if_pos h, if_pos h, if_pos rfl, if_pos rfl]
    have D := I.d.begT (v := 0)
    have := main _ D (by rw [begin_eq m1 m2]; show (2 : Int) ≠ 0; decide)
    rw [mapO_begin m1 m2] at this
    exact this
  · rw [if_neg h, if_neg h]
    have h : t.answer.1 = 0 := Decidable.not_not.1 h
    rcases ht with ⟨z, _⟩ | ⟨k, rfl⟩
    · rw [z] at h; exact absurd h (by decide)
    by_cases p : t.pc = 0
    · rw [stepD_end p, stepD_end (show (mapO off f t).pc = 0 from p)]
      exact ⟨⟨I.d.up nn, I.d'.up nn, I.dis, I.len, I.jsz, I.j1⟩, .inr ⟨k, rfl⟩, by rw [h]; decide⟩
    · exact main t I.d p
end
end Go.Mx

namespace Go.Mx

end Go.Mx

namespace Go.Mx

theorem gt_big {cs : List Int} {y : Int} (h : (cs.length : Int) ≤ y) : gt cs y = 0 := by
  unfold gt
  rw [List.getElem?_eq_none (by omega)]; rfl
theorem gt_laid {low : Int} {cs : List Int} {y : Int} (h : 1 ≤ low) (hy : 0 ≤ y) : gt (laid low cs) y = if y = (cs.length : Int) + 3 then low else if y = (cs.length : Int) + 2 then (cs.length : Int) + 3 else gt cs y := by
  have hl : ((cs ++ List.replicate (4 + low).toNat (0 : Int)).length : Int) = (cs.length : Int) + (4 + low) := by rw [List.length_append, List.length_replicate]; omega
  unfold laid
  have a := gt_set (cs := (cs ++ List.replicate (4 + low).toNat 0).set ((cs.length : Int) + 2).toNat ((cs.length : Int) + 3)) (x := (cs.length : Int) + 3) (v := low) (y := y) (by omega) (by rw [List.length_set, hl]; omega) hy
  have b := gt_set (cs := cs ++ List.replicate (4 + low).toNat 0) (x := (cs.length : Int) + 2) (v := (cs.length : Int) + 3) (y := y) (by omega) (by rw [hl]; omega) hy
  rw [gt_app] at b
  rw [b] at a
  have e1 : ((cs.length : Int) + 2).toNat = cs.length + 2 := by omega
  have e2 : ((cs.length : Int) + 3).toNat = cs.length + 3 := by omega
  rw [e1, e2] at a
  exact a
def alone0 (low most : Int) : AS := ⟨cellsOf low most, laid low [], [], 0, false⟩
theorem alone0_gt {low most y : Int} (hc : CapE low most) (hy : 0 ≤ y) : gt (alone0 low most).cs y = if y = 3 then low else if y = 2 then 3 else 0 := by
  show gt (laid low []) y = _
  have h := gt_laid (cs := []) hc.1 hy
  have z : gt ([] : List Int) y = 0 := rfl
  rw [z] at h
  exact h
section
variable {l m l' m' : Int} (hc : CapE l m) (hc' : CapE l' m')
include hc hc'
end
end Go.Mx
