/-
  The deque's machines over an arena.
-/
import Derived.Test.YtndhbkhhehleaaaMxQb
import Derived.Test.YtndhbkhhehleaaaMxAs
set_option linter.unusedVariables false
set_option linter.unusedSimpArgs false
namespace Go.Mx

structure AS where
  sz : Int
  cs : List Int
  lg : List Acc
  who : Int
  wt : Bool
def AS.log (s : AS) (a : Acc) : AS := { s with lg := wl s.wt s.lg a }
def AS.In (s : AS) (a : Int) : Prop := 0 ≤ a ∧ a < (s.cs.length : Int)
instance (s : AS) (a : Int) : Decidable (s.In a) := by unfold AS.In; infer_instance
def AS.at' (s : AS) (a : Int) : Int := s.cs[a.toNat]?.getD 0
def arenaI : MemF AS := fun s r => match r with
  | .ld a => if s.In a then (some (s.at' a), s.log (s.who, (0, (a, (s.at' a, (0, (true, ()))))))) else (none, s)
  | .st a v => if s.In a then (some 0, AS.log { s with cs := s.cs.set a.toNat v } (s.who, (1, (a, (v, (0, (true, ()))))))) else (none, s)
  | .cas a x y => if s.In a then (some (if s.at' a = x then 1 else 0), AS.log { s with cs := if s.at' a = x then s.cs.set a.toNat y else s.cs } (s.who, (2, (a, (x, (y, (decide (s.at' a = x), ()))))))) else (none, s)
  | .rs n => if n < 1 then (none, s) else if s.sz - (s.cs.length : Int) < n then (none, s) else (some (s.cs.length : Int), AS.log { s with cs := s.cs ++ List.replicate n.toNat 0 } (s.who, (4, ((s.cs.length : Int), (n, (0, (true, ())))))))
def RA (h0 : Heap) (b : Nat) : AS → (Nat → Prop) → Heap → Prop := fun s S h => ∃ c l, S = fpA b c l ∧ Ar h0 h b c l s.sz s.cs s.lg s.who s.wt

theorem at_of {s : AS} {a v : Int} (h : s.cs[a.toNat]? = some v) : s.at' a = v := by unfold AS.at'; rw [h]; rfl
structure ArC (cL : Value → Int → Heap → (Den KP2 → Heap → Prop) → Prop) (cR : Value → Int → Heap → (Den KP2 → Heap → Prop) → Prop) (cS : Value → Int → Int → Heap → (Int → Heap → Prop) → Prop)
    (cC : Value → Int → Int → Int → Heap → ((Bool × (Int × Unit)) → Heap → Prop) → Prop) (cN : Value → Prop) (v : Value) (b : Nat) : Prop where
  iface : isI v
  some' : isNilI v = false
  nil : ∀ n, n = "Load" ∨ n = "Store" → cN (Value.func (.method n) (List.toArray [Kd.val .iface v]) (List.toArray []))
  load : ∀ {h0 h : Heap} {c l : Sl} {sz : Int} {cs : List Int} {lg : List Acc} {who : Int} {wt : Bool} {addr : Int} {Q : Den K2 → Heap → Prop}, Ar h0 h b c l sz cs lg who wt → lg.length ≤ 1000000000 → (¬ (0 ≤ addr ∧ addr < (cs.length : Int)) → Q (0, (20, ())) h) →
    (∀ v l' h', cs[addr.toNat]? = some v → 0 ≤ addr ∧ addr < (cs.length : Int) → Ar h0 h' b c l' sz cs (wl wt lg (who, (0, (addr, (v, (0, (true, ()))))))) who wt → Step (fpA b c l) (fpA b c l') h h' → Q (v, (0, ())) h') → cL v addr h Q
  store : ∀ {h0 h : Heap} {c l : Sl} {sz : Int} {cs : List Int} {lg : List Acc} {who : Int} {wt : Bool} {addr x : Int} {Q : Int → Heap → Prop}, Ar h0 h b c l sz cs lg who wt → lg.length ≤ 1000000000 → (¬ (0 ≤ addr ∧ addr < (cs.length : Int)) → Q 20 h) →
    (∀ l' h', 0 ≤ addr ∧ addr < (cs.length : Int) → Ar h0 h' b c l' sz (cs.set addr.toNat x) (wl wt lg (who, (1, (addr, (x, (0, (true, ()))))))) who wt → Step (fpA b c l) (fpA b c l') h h' → Q 0 h') → cS v addr x h Q
  cas : ∀ {h0 h : Heap} {c l : Sl} {sz : Int} {cs : List Int} {lg : List Acc} {who : Int} {wt : Bool} {addr x y : Int} {Q : (Bool × (Int × Unit)) → Heap → Prop}, Ar h0 h b c l sz cs lg who wt → lg.length ≤ 1000000000 → (¬ (0 ≤ addr ∧ addr < (cs.length : Int)) → Q (false, (20, ())) h) →
    (∀ v l' h', cs[addr.toNat]? = some v → 0 ≤ addr ∧ addr < (cs.length : Int) → Ar h0 h' b c l' sz (if v = x then cs.set addr.toNat y else cs) (wl wt lg (who, (2, (addr, (x, (y, (decide (v = x), ()))))))) who wt → Step (fpA b c l) (fpA b c l') h h' → Q (decide (v = x), (0, ())) h') → cC v addr x y h Q
  reserve : ∀ {h0 h : Heap} {c l : Sl} {sz : Int} {cs : List Int} {lg : List Acc} {who : Int} {wt : Bool} {n : Int} {Q : Den K2 → Heap → Prop}, Ar h0 h b c l sz cs lg who wt → lg.length ≤ 1000000000 → (cs.length : Int) ≤ sz → sz ≤ 1048576 → (n < 1 → Q (0, (21, ())) h) → (1 ≤ n → sz - (cs.length : Int) < n → Q (0, (22, ())) h) →
    (∀ c' l' h', 1 ≤ n → n ≤ sz - (cs.length : Int) → Ar h0 h' b c' l' sz (cs ++ List.replicate n.toNat 0) (wl wt lg (who, (4, ((cs.length : Int), (n, (0, (true, ()))))))) who wt → Step (fpA b c l) (fpA b c' l') h h' → Q ((cs.length : Int), (0, ())) h') → cR v n h Q

theorem ArC.mem {cL cR cS cC cN v b} (k : ArC cL cR cS cC cN v b) {h0 h : Heap} {s : AS} {S : Nat → Prop} (hR : RA h0 b s S h) (hl : s.lg.length ≤ 1000000000) (hf : (s.cs.length : Int) ≤ s.sz) (hz : s.sz ≤ 1048576) : MemT arenaI (RA h0 b) v cL cR cS cC cN s S h := by
  obtain ⟨sz, cs, lg, who, wt⟩ := s
  obtain ⟨c, l, rfl, o⟩ := hR
  dsimp only at hl hf hz o
  refine ⟨k.iface, k.some', k.nil, fun {a Q} hQ => ?_, fun {a x Q} hQ => ?_, fun {a x y Q} hQ => ?_, fun {n Q} hQ => ?_⟩
  · refine k.load o hl (fun q => ?_) fun v l' h' hv q o' st => ?_
    · have e : arenaI ⟨sz, cs, lg, who, wt⟩ (.ld a) = (none, ⟨sz, cs, lg, who, wt⟩) := if_neg q
      rw [e] at hQ
      exact hQ 0 20 _ h (.inr ⟨rfl, by decide⟩) ⟨c, l, rfl, o⟩ (.refl _ _)
    · have e : arenaI ⟨sz, cs, lg, who, wt⟩ (.ld a) = (some (AS.at' ⟨sz, cs, lg, who, wt⟩ a), AS.log ⟨sz, cs, lg, who, wt⟩ (who, (0, (a, (AS.at' ⟨sz, cs, lg, who, wt⟩ a, (0, (true, ()))))))) := if_pos q
      rw [e, at_of (s := ⟨sz, cs, lg, who, wt⟩) hv] at hQ
      exact hQ v 0 _ h' (.inl ⟨rfl, rfl⟩) ⟨c, l', rfl, o'⟩ st
  · refine k.store o hl (fun q => ?_) fun l' h' q o' st => ?_
    · have e : arenaI ⟨sz, cs, lg, who, wt⟩ (.st a x) = (none, ⟨sz, cs, lg, who, wt⟩) := if_neg q
      rw [e] at hQ
      exact hQ 20 _ h (.inr ⟨rfl, by decide⟩) ⟨c, l, rfl, o⟩ (.refl _ _)
    · have e : arenaI ⟨sz, cs, lg, who, wt⟩ (.st a x) = (some 0, AS.log ⟨sz, cs.set a.toNat x, lg, who, wt⟩ (who, (1, (a, (x, (0, (true, ()))))))) := if_pos q
      rw [e] at hQ
      exact hQ 0 _ h' (.inl ⟨rfl, rfl⟩) ⟨c, l', rfl, o'⟩ st
  · refine k.cas o hl (fun q => ?_) fun v l' h' hv q o' st => ?_
    · have e : arenaI ⟨sz, cs, lg, who, wt⟩ (.cas a x y) = (none, ⟨sz, cs, lg, who, wt⟩) := if_neg q
      rw [e] at hQ
      exact hQ false 20 _ h (.inr ⟨rfl, by decide⟩) ⟨c, l, rfl, o⟩ (.refl _ _)
    · have e : arenaI ⟨sz, cs, lg, who, wt⟩ (.cas a x y) = (some (if AS.at' ⟨sz, cs, lg, who, wt⟩ a = x then 1 else 0), AS.log ⟨sz, if AS.at' ⟨sz, cs, lg, who, wt⟩ a = x then cs.set a.toNat y else cs, lg, who, wt⟩ (who, (2, (a, (x, (y, (decide (AS.at' ⟨sz, cs, lg, who, wt⟩ a = x), ()))))))) := if_pos q
      rw [e, at_of (s := ⟨sz, cs, lg, who, wt⟩) hv] at hQ
      refine hQ (decide (v = x)) 0 _ h' (.inl ⟨?_, rfl⟩) ⟨c, l', rfl, o'⟩ st
      simp
  · by_cases q : n < 1
    · have e : arenaI ⟨sz, cs, lg, who, wt⟩ (.rs n) = (none, ⟨sz, cs, lg, who, wt⟩) := if_pos q
      rw [e] at hQ
      exact k.reserve o hl hf hz (fun _ => hQ 0 21 _ h (.inr ⟨rfl, by decide⟩) ⟨c, l, rfl, o⟩ (.refl _ _)) (fun p => absurd q (by omega)) (fun _ _ _ p => absurd q (by omega))
    · by_cases r : sz - (cs.length : Int) < n
      · have e : arenaI ⟨sz, cs, lg, who, wt⟩ (.rs n) = (none, ⟨sz, cs, lg, who, wt⟩) := by
          show (if n < 1 then _ else if sz - (cs.length : Int) < n then _ else _) = _
          rw [if_neg q, if_pos r]
        rw [e] at hQ
        exact k.reserve o hl hf hz (fun p => absurd p q) (fun _ _ => hQ 0 22 _ h (.inr ⟨rfl, by decide⟩) ⟨c, l, rfl, o⟩ (.refl _ _)) (fun _ _ _ _ p => absurd r (by omega))
      · have e : arenaI ⟨sz, cs, lg, who, wt⟩ (.rs n) = (some (cs.length : Int), AS.log ⟨sz, cs ++ List.replicate n.toNat 0, lg, who, wt⟩ (who, (4, ((cs.length : Int), (n, (0, (true, ()))))))) := by
          show (if n < 1 then _ else if sz - (cs.length : Int) < n then _ else _) = _
          rw [if_neg q, if_neg r]
        rw [e] at hQ
        exact k.reserve o hl hf hz (fun p => absurd p q) (fun _ p => absurd p r) (fun c' l' h' _ _ o' st => hQ _ 0 _ h' (.inl ⟨rfl, rfl⟩) ⟨c', l', rfl, o'⟩ st)

structure AS.Fit (s : AS) (n : Nat) : Prop where
  lg : s.lg.length ≤ n
  cs : (s.cs.length : Int) ≤ s.sz
  sz : s.sz ≤ 1048576
theorem wl_len (wt : Bool) (lg : List Acc) (a : Acc) : (wl wt lg a).length ≤ lg.length + 1 := by
  unfold wl
  split
  · simp
  · omega
theorem AS.Fit.act {s : AS} {n : Nat} (f : s.Fit n) (r : Rq) : (arenaI s r).2.Fit (n + 1) ∧ (arenaI s r).2.sz = s.sz ∧ (arenaI s r).2.who = s.who ∧ (arenaI s r).2.wt = s.wt := by
  obtain ⟨f1, f2, f3⟩ := f
  have same : s.Fit (n + 1) ∧ s.sz = s.sz ∧ s.who = s.who ∧ s.wt = s.wt := ⟨⟨by omega, f2, f3⟩, rfl, rfl, rfl⟩
  have lgd : ∀ (cs : List Int) (a : Acc), (cs.length : Int) ≤ s.sz → (AS.log { s with cs := cs } a).Fit (n + 1) ∧ (AS.log { s with cs := cs } a).sz = s.sz ∧ (AS.log { s with cs := cs } a).who = s.who ∧ (AS.log { s with cs := cs } a).wt = s.wt := fun cs a hc =>
    ⟨⟨by have := wl_len s.wt s.lg a; show (wl s.wt s.lg a).length ≤ _; omega, hc, f3⟩, rfl, rfl, rfl⟩
  cases r with
  | ld a => exact pif (P := fun p : Option Int × AS => p.2.Fit (n + 1) ∧ p.2.sz = s.sz ∧ p.2.who = s.who ∧ p.2.wt = s.wt) (fun _ => lgd s.cs _ f2) (fun _ => same)
  | st a v => exact pif (P := fun p : Option Int × AS => p.2.Fit (n + 1) ∧ p.2.sz = s.sz ∧ p.2.who = s.who ∧ p.2.wt = s.wt) (fun _ => lgd _ _ (by rw [List.length_set]; exact f2)) (fun _ => same)
  | cas a x y => exact pif (P := fun p : Option Int × AS => p.2.Fit (n + 1) ∧ p.2.sz = s.sz ∧ p.2.who = s.who ∧ p.2.wt = s.wt) (fun _ => lgd _ _ (pif (P := fun l : List Int => (l.length : Int) ≤ s.sz) (fun _ => by rw [List.length_set]; exact f2) (fun _ => f2))) (fun _ => same)
  | rs m => exact pif (P := fun p : Option Int × AS => p.2.Fit (n + 1) ∧ p.2.sz = s.sz ∧ p.2.who = s.who ∧ p.2.wt = s.wt) (fun _ => same) (fun _ => pif (P := fun p : Option Int × AS => p.2.Fit (n + 1) ∧ p.2.sz = s.sz ∧ p.2.who = s.who ∧ p.2.wt = s.wt) (fun _ => same) (fun q => lgd _ _ (by rw [List.length_append, List.length_replicate]; omega)))
theorem AS.Fit.step {s : AS} {n : Nat} (f : s.Fit n) (o : DOp) : (stepD arenaI s o).1.Fit (n + 1) ∧ (stepD arenaI s o).1.sz = s.sz ∧ (stepD arenaI s o).1.who = s.who ∧ (stepD arenaI s o).1.wt = s.wt := by
  have same : s.Fit (n + 1) ∧ s.sz = s.sz ∧ s.who = s.who ∧ s.wt = s.wt := ⟨⟨Nat.le_succ_of_le f.lg, f.cs, f.sz⟩, rfl, rfl, rfl⟩
  have ha := f.act o.req
  unfold stepD
  refine pif (P := fun p : AS × DOp => p.1.Fit (n + 1) ∧ p.1.sz = s.sz ∧ p.1.who = s.who ∧ p.1.wt = s.wt) (fun _ => same) (fun _ => pif (P := fun p : AS × DOp => p.1.Fit (n + 1) ∧ p.1.sz = s.sz ∧ p.1.who = s.who ∧ p.1.wt = s.wt) (fun _ => same) (fun _ => ?_))
  split <;> exact ha

end Go.Mx
